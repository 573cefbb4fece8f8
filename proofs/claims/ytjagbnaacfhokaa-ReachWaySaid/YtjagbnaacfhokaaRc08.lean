/- The reference's CheckNet walked. -/
import Derived.Test.YtjagbnaacfhokaaRc07
namespace Go.Proofs.Ytjagbnaacfhokaa
set_option linter.unusedVariables false
set_option linter.unusedSimpArgs false
open Go.RowKit

set_option maxRecDepth 100000 in
set_option maxHeartbeats 40000000 in
theorem rnet_any (i : Int) (GA : Option Addr) (gn gc : Nat) (RA : Option Addr) (rn rc : Nat) (OA : Option Addr) (on oc : Nat) (N : NetM) (w : World)
    (h : NetC w i GA gn gc RA rn rc OA on oc N) (hlo : -9223372036854775808 ≤ i) :
    Calls Try.prog 61 #[netV i GA gn gc RA rn rc OA on oc] w fun e w' => e = .returned (I (checkN N)) ∧ Ext w w' := by
  generalize hR : checkN N = R
  unfold checkN at hR
  obtain ⟨W, hW⟩ : ∃ W, W = w.alloc (.cells #[I i, .slice GA gn gc, .slice RA rn rc, .slice OA on oc] 26) := ⟨_, rfl⟩
  have hxW : Ext w W := by rw [hW]; exact (Ext.refl _).alloc _
  obtain ⟨q0, q1, q2, q3⟩ : NetBox W w.heap.size i GA gn gc RA rn rc OA on oc := by rw [hW]; exact NetBox.new w i GA gn gc RA rn rc OA on oc _
  have HN := Lib.hid (h.keep hxW.keeps); clear h
  have HBox : Hid (NetBox W w.heap.size i GA gn gc RA rn rc OA on oc) := ⟨q0, q1, q2, q3⟩
  have e1 := HN.out.ins; have e2 := HN.out.gates.1; have e3 := HN.out.regs.1; have e4 := HN.out.outs.len
  have HW := Lib.hid hW; clear hW
  cases ht : tooMany N
  case true =>
    rw [ht] at hR
    have HR : Hid (R = 2) := by unfold Hid; rw [← hR]; rfl
    have hd : 3 < i ∨ (¬ 3 < i ∧ 200 < gn) ∨ (¬ 3 < i ∧ ¬ 200 < gn ∧ 20 < rn) ∨ (¬ 3 < i ∧ ¬ 200 < gn ∧ ¬ 20 < rn ∧ 3 < on) := by
      simp only [tooMany, Bool.or_eq_true, decide_eq_true_eq, ← e1, e2, e3, e4] at ht; omega
    clear hR ht e1 e2 e3 e4
    rcases hd with d1 | ⟨d1, d2⟩ | ⟨d1, d2, d3⟩ | ⟨d1, d2, d3, d4⟩
    all_goals
      go_enter Try.func61, Try.ntmps61
      go_wp2_with fail
      go_ret; exact ⟨ret_int HR.out.symm, by first | exact (Ext.refl w).alloc _ | exact hxW⟩
  case false =>
    rw [ht] at hR
    have hbd : i ≤ 3 ∧ gn ≤ 200 ∧ rn ≤ 20 ∧ on ≤ 3 := by
      simp only [tooMany, Bool.or_eq_false_iff, decide_eq_false_iff_not, ← e1, e2, e3, e4] at ht; omega
    obtain ⟨d1, d2, d3, d4⟩ := hbd
    have HR := Lib.hid hR
    have E1 := Lib.hid e1; have E2 := Lib.hid e2; have E3 := Lib.hid e3; have E4 := Lib.hid e4
    clear hR ht e1 e2 e3 e4
    go_enter Try.func61, Try.ntmps61
    go_wp2
    rw [← HW.out]
    go_loop [3] (fun j => ∃ k : Nat, k ≤ gn ∧ j = .int .i64 k ∧ (N.gates.drop k).any manyA = N.gates.any manyA) (fun j => gn - (intOf j).toNat)
    case atStart => exact ⟨0, Nat.zero_le _, rfl, rfl⟩
    case round =>
      obtain ⟨k, hk, rfl, hM⟩ := hrel
      by_cases hlt : k < gn
      · obtain ⟨b, off, A', m, c', g, rfl, c0, c1, c2, hs, -, -, hd, -⟩ := HN.out.gates.next hlt
        have hml := hs.len
        rw [hd, List.any_cons] at hM
        have HM := Lib.hid hM; have HML := Lib.hid hml; clear hM hd hs hml
        by_cases hb : 16 < m
        · have HB : Hid (manyA g = true) := by unfold Hid; simp [manyA, HML.out, hb]
          go_wp2
          go_ret; exact ⟨ret_int (by rw [← HR.out, ← HM.out, HB.out]; rfl), hxW⟩
        · have HB : Hid (manyA g = false) := by unfold Hid; simp [manyA, HML.out]; omega
          go_wp2
          go_round
          case rel => exact ⟨k + 1, by omega, by go_num, by rw [← HM.out, HB.out]; simp⟩
          case measure => simp [intOf]; omega
      · rw [HN.out.gates.drop_end hlt] at hM
        have HA : Hid (N.gates.any manyA = false) := by unfold Hid; rw [← hM]; rfl
        have HR1 : Hid ((if N.ins < 0 then 3 else if (namedM N).any (badPlace N.gates.length) then 3 else if N.gates.any badGK then 4 else if N.gates.all (formM N) then 0 else 1) = R) := by
          unfold Hid; rw [← HR.out, HA.out]; rfl
        clear hM HR
        by_cases hneg : i < 0
        · have HG : Hid (N.ins < 0) := by unfold Hid; rw [← E1.out]; exact hneg
          go_wp2
          go_ret; exact ⟨ret_int (by rw [← HR1.out, if_pos HG.out]), hxW⟩
        · have HG : Hid (¬ N.ins < 0) := by unfold Hid; rw [← E1.out]; exact hneg
          have HR2 : Hid ((if (namedM N).any (badPlace gn) then 3 else if N.gates.any badGK then 4 else if N.gates.all (formM N) then 0 else 1) = R) := by
            unfold Hid; rw [← HR1.out, if_neg HG.out, E2.out]
          have HP : Hid ((namedM N).any (badPlace gn) = (N.outs.any (badPlace gn) || (N.regs.map (·.next)).any (badPlace gn) || (N.gates.flatMap (·.args)).any (badPlace gn))) := by
            unfold Hid; simp only [namedM, List.any_append]
          clear HR1
          go_wp2
          go_loop [5] (fun j => ∃ k : Nat, k ≤ rn ∧ j = .int .i64 k ∧ ((N.regs.drop k).map (·.next)).any (badPlace gn) = (N.regs.map (·.next)).any (badPlace gn)) (fun j => rn - (intOf j).toNat)
          case atStart => exact ⟨0, Nat.zero_le _, rfl, rfl⟩
          case round =>
            obtain ⟨k2, hk2, rfl, hM⟩ := hrel
            by_cases hlt2 : k2 < rn
            · obtain ⟨b, off, r, rfl, c0, c1, hd, -⟩ := HN.out.regs.next hlt2
              rw [hd, List.map_cons, List.any_cons] at hM
              have HM := Lib.hid hM; clear hM hd
              cases hb : badPlace gn r.next
              · have HWn : Hid ((decide (0 ≤ r.next) && decide (r.next ≤ (gn : Int) - 1)) = true) := by unfold Hid; simp [badPlace] at hb; simp; omega
                have HB := Lib.hid hb; clear hb
                go_wp2_with (go_at_call 110; with_reducible refine (within_any' _ _ _ _).mono ?_; rintro e w' ⟨rfl, rfl⟩; rw [HWn.out])
                go_round
                case rel => exact ⟨k2 + 1, by omega, by go_num, by rw [← HM.out, HB.out]; simp⟩
                case measure => simp [intOf]; omega
              · have HWn : Hid ((decide (0 ≤ r.next) && decide (r.next ≤ (gn : Int) - 1)) = false) := by unfold Hid; simp [badPlace] at hb; simp; omega
                have HB := Lib.hid hb; clear hb
                go_wp2_with (go_at_call 110; with_reducible refine (within_any' _ _ _ _).mono ?_; rintro e w' ⟨rfl, rfl⟩; rw [HWn.out])
                go_ret; exact ⟨ret_int (by rw [← HR2.out, HP.out, ← HM.out, HB.out]; simp), hxW⟩
            · rw [HN.out.regs.drop_end hlt2] at hM
              have HRg : Hid ((N.regs.map (·.next)).any (badPlace gn) = false) := by unfold Hid; rw [← hM]; rfl
              clear hM
              go_wp2
              go_loop [6] (fun j => ∃ k : Nat, k ≤ on ∧ j = .int .i64 k ∧ (N.outs.drop k).any (badPlace gn) = N.outs.any (badPlace gn)) (fun j => on - (intOf j).toNat)
              case atStart => exact ⟨0, Nat.zero_le _, rfl, rfl⟩
              case round =>
                obtain ⟨k3, hk3, rfl, hM⟩ := hrel
                by_cases hlt3 : k3 < on
                · obtain ⟨b, off, x, rfl, c0, hd⟩ := HN.out.outs.next hlt3
                  rw [hd, List.any_cons] at hM
                  have HM := Lib.hid hM; clear hM hd
                  cases hb : badPlace gn x
                  · have HWn : Hid ((decide (0 ≤ x) && decide (x ≤ (gn : Int) - 1)) = true) := by unfold Hid; simp [badPlace] at hb; simp; omega
                    have HB := Lib.hid hb; clear hb
                    go_wp2_with (go_at_call 110; with_reducible refine (within_any' _ _ _ _).mono ?_; rintro e w' ⟨rfl, rfl⟩; rw [HWn.out])
                    go_round
                    case rel => exact ⟨k3 + 1, by omega, by go_num, by rw [← HM.out, HB.out]; simp⟩
                    case measure => simp [intOf]; omega
                  · have HWn : Hid ((decide (0 ≤ x) && decide (x ≤ (gn : Int) - 1)) = false) := by unfold Hid; simp [badPlace] at hb; simp; omega
                    have HB := Lib.hid hb; clear hb
                    go_wp2_with (go_at_call 110; with_reducible refine (within_any' _ _ _ _).mono ?_; rintro e w' ⟨rfl, rfl⟩; rw [HWn.out])
                    go_ret; exact ⟨ret_int (by rw [← HR2.out, HP.out, ← HM.out, HB.out]; simp), hxW⟩
                · rw [HN.out.outs.drop_end hlt3] at hM
                  have HOt : Hid (N.outs.any (badPlace gn) = false) := by unfold Hid; rw [← hM]; rfl
                  clear hM
                  have hAe : ∀ g ∈ N.gates, g.args.length ≤ 16 := fun g hg => by
                    have := List.any_eq_false.1 HA.out g hg; simp [manyA] at this; omega
                  have HG16 := Lib.hid hAe; clear hAe
                  go_wp2
                  go_loop [7, 8] (fun j _ => ∃ k : Nat, k ≤ gn ∧ j = .int .i64 k ∧ ((N.gates.drop k).flatMap (·.args)).any (badPlace gn) = (N.gates.flatMap (·.args)).any (badPlace gn)) (fun j _ => gn - (intOf j).toNat)
                  case atStart => exact ⟨0, Nat.zero_le _, rfl, rfl⟩
                  case round =>
                    obtain ⟨k4, hk4, rfl, hM⟩ := hrel
                    by_cases hlt4 : k4 < gn
                    · obtain ⟨b, off, A', m, c', g, rfl, c0, c1, c2, hs, -, -, hd, hgx⟩ := HN.out.gates.next hlt4
                      rw [hd, List.flatMap_cons, List.any_append] at hM
                      have hml := hs.len
                      have hm16 : m ≤ 16 := by have := HG16.out g (List.mem_of_getElem? hgx); omega
                      have HM := Lib.hid hM; have HSG := Lib.hid hs; clear hM hd hs hml hgx
                      go_wp2
                      go_loop [8] (fun j => ∃ q : Nat, q ≤ m ∧ j = .int .i64 q ∧ (g.args.drop q).any (badPlace gn) = g.args.any (badPlace gn)) (fun j => m - (intOf j).toNat)
                      case atStart => exact ⟨0, Nat.zero_le _, rfl, rfl⟩
                      case round =>
                        obtain ⟨q, hq, rfl, hMq⟩ := hrel
                        by_cases hltq : q < m
                        · obtain ⟨b', off', x, rfl, ca, hdq⟩ := HSG.out.next hltq
                          rw [hdq, List.any_cons] at hMq
                          have HMq := Lib.hid hMq; clear hMq hdq
                          cases hb : badPlace gn x
                          · have HWn : Hid ((decide (0 ≤ x) && decide (x ≤ (gn : Int) - 1)) = true) := by unfold Hid; simp [badPlace] at hb; simp; omega
                            have HB := Lib.hid hb; clear hb
                            go_wp2_with (go_at_call 110; with_reducible refine (within_any' _ _ _ _).mono ?_; rintro e w' ⟨rfl, rfl⟩; rw [HWn.out])
                            go_round
                            case rel => exact ⟨q + 1, by omega, by go_num, by rw [← HMq.out, HB.out]; simp⟩
                            case measure => simp [intOf]; omega
                          · have HWn : Hid ((decide (0 ≤ x) && decide (x ≤ (gn : Int) - 1)) = false) := by unfold Hid; simp [badPlace] at hb; simp; omega
                            have HB := Lib.hid hb; clear hb
                            go_wp2_with (go_at_call 110; with_reducible refine (within_any' _ _ _ _).mono ?_; rintro e w' ⟨rfl, rfl⟩; rw [HWn.out])
                            go_ret; exact ⟨ret_int (by rw [← HR2.out, HP.out, ← HM.out, ← HMq.out, HB.out]; simp), hxW⟩
                        · rw [HSG.out.drop_end hltq] at hMq
                          have HAg : Hid (g.args.any (badPlace gn) = false) := by unfold Hid; rw [← hMq]; rfl
                          clear hMq
                          go_wp2
                          go_round
                          case rel => exact ⟨k4 + 1, by omega, by go_num, by rw [← HM.out, HAg.out]; simp⟩
                          case measure => simp [intOf]; omega
                    · rw [HN.out.gates.drop_end hlt4] at hM
                      have HAr : Hid ((N.gates.flatMap (·.args)).any (badPlace gn) = false) := by unfold Hid; rw [← hM]; rfl
                      have HR3 : Hid ((if N.gates.any badGK then 4 else if N.gates.all (formM N) then 0 else 1) = R) := by
                        unfold Hid; rw [← HR2.out, HP.out, HRg.out, HOt.out, HAr.out]; rfl
                      clear hM HR2
                      go_wp2
                      go_loop [9] (fun j => ∃ k : Nat, k ≤ gn ∧ j = .int .i64 k ∧ (N.gates.drop k).any badGK = N.gates.any badGK) (fun j => gn - (intOf j).toNat)
                      case atStart => exact ⟨0, Nat.zero_le _, rfl, rfl⟩
                      case round =>
                        obtain ⟨k5, hk5, rfl, hM⟩ := hrel
                        by_cases hlt5 : k5 < gn
                        · obtain ⟨b, off, A', m, c', g, rfl, c0, c1, c2, -, -, -, hd, -⟩ := HN.out.gates.next hlt5
                          rw [hd, List.any_cons] at hM
                          have HM := Lib.hid hM; clear hM hd
                          cases hb : badGK g
                          · have HWn : Hid ((decide (0 ≤ g.kind) && decide (g.kind ≤ 6)) = true) := by unfold Hid; simp [badGK] at hb; simp; omega
                            have HB := Lib.hid hb; clear hb
                            go_wp2_with (go_at_call 110; with_reducible refine (within_any' _ _ _ _).mono ?_; rintro e w' ⟨rfl, rfl⟩; rw [HWn.out])
                            go_round
                            case rel => exact ⟨k5 + 1, by omega, by go_num, by rw [← HM.out, HB.out]; simp⟩
                            case measure => simp [intOf]; omega
                          · have HWn : Hid ((decide (0 ≤ g.kind) && decide (g.kind ≤ 6)) = false) := by unfold Hid; simp [badGK] at hb; simp; omega
                            have HB := Lib.hid hb; clear hb
                            go_wp2_with (go_at_call 110; with_reducible refine (within_any' _ _ _ _).mono ?_; rintro e w' ⟨rfl, rfl⟩; rw [HWn.out])
                            go_ret; exact ⟨ret_int (by rw [← HR3.out, ← HM.out, HB.out]; rfl), hxW⟩
                        · rw [HN.out.gates.drop_end hlt5] at hM
                          have HK : Hid (N.gates.any badGK = false) := by unfold Hid; rw [← hM]; rfl
                          have HR4 : Hid ((if N.gates.all (formM N) then 0 else 1) = R) := by unfold Hid; rw [← HR3.out, HK.out]; rfl
                          have hK0 : ∀ g ∈ N.gates, 0 ≤ g.kind ∧ g.kind ≤ 6 := fun g hg => by
                            have := List.any_eq_false.1 HK.out g hg; simp [badGK] at this; omega
                          have HKK := Lib.hid hK0
                          clear hM hK0
                          go_wp2
                          clear q0 q1 q2 q3
                          go_loopw [10, 11, 12] (fun j _ _ wr => ∃ k : Nat, k ≤ gn ∧ j = .int .i64 k ∧ Ext W wr ∧ (N.gates.drop k).all (formM N) = N.gates.all (formM N)) (fun j _ _ _ => gn - (intOf j).toNat)
                          case atStart => exact ⟨0, Nat.zero_le _, rfl, Ext.refl _, rfl⟩
                          case round =>
                            obtain ⟨k6, hk6, rfl, hx6, hM⟩ := hrel
                            have q0 := (show NetBox W w.heap.size i GA gn gc RA rn rc OA on oc from HBox.out).keep hx6.keeps
                            have qa := fun o => ((show NetBox W w.heap.size i GA gn gc RA rn rc OA on oc from HBox.out).keep (hx6.alloc o).keeps).1
                            have qb := fun o => ((show NetBox W w.heap.size i GA gn gc RA rn rc OA on oc from HBox.out).keep (hx6.alloc o).keeps).2.2.1
                            obtain ⟨q0, q1, q2, q3⟩ := q0
                            by_cases hlt6 : k6 < gn
                            · obtain ⟨b, off, A', m, c', g, rfl, g0, g1, g2, hs, -, -, hd, hgx⟩ := HN.out.gates.next hlt6
                              have c0 := hx6.keeps _ _ g0; have c1 := hx6.keeps _ _ g1; have c2 := hx6.keeps _ _ g2
                              rw [hd, List.all_cons] at hM
                              have hml := hs.len
                              obtain ⟨kl, kh⟩ := HKK.out g (List.mem_of_getElem? hgx)
                              have hm16 : m ≤ 16 := by have := HG16.out g (List.mem_of_getElem? hgx); omega
                              obtain ⟨kd, nm, ags⟩ := g
                              simp only at hml kl kh c0 c1 c2
                              generalize hF : formM N ⟨kd, nm, ags⟩ = F at hM
                              unfold formM at hF
                              simp only [← E1.out, E3.out, hml] at hF
                              have HM := Lib.hid hM; have HML := Lib.hid hml
                              clear hM hd g0 g1 g2 hs hgx hml
                              have h7 : kd = 0 ∨ kd = 1 ∨ kd = 2 ∨ kd = 3 ∨ kd = 4 ∨ kd = 5 ∨ kd = 6 := by omega
                              clear kl kh
                              rcases h7 with rfl | rfl | rfl | rfl | rfl | rfl | rfl
                              all_goals
                                simp only [reduceIte, Int.reduceEq, false_or, or_false, true_or, or_true, or_self, Bool.and_assoc] at hF
                                generalize hw : (decide (0 ≤ nm) && decide (nm ≤ _)) = wv at hF
                                have HF := Lib.hid hF; have HWn := Lib.hid hw; clear hF hw
                                have hm3 : m = 0 ∨ m = 1 ∨ 2 ≤ m := by omega
                                clear hm16
                                cases wv <;> rcases hm3 with rfl | rfl | hm2
                                all_goals
                                  go_wp2_with (go_at_call 110; with_reducible refine (within_any' _ _ _ _).mono ?_; rintro e w' ⟨rfl, rfl⟩; rw [HWn.out])
                                  all_goals
                                    first
                                      | (go_ret; exact ⟨ret_int (by rw [← HR4.out, ← HM.out, show F = false from by (rw [← HF.out]; simp <;> omega)]; rfl), hxW.trans (hx6.alloc _)⟩)
                                      | (go_roundw
                                         case rel => exact ⟨k6 + 1, by omega, by go_num, hx6.alloc _, by rw [← HM.out, show F = true from by (rw [← HF.out]; simp <;> omega)]; simp⟩
                                         case measure => simp [intOf]; omega)
                            · rw [HN.out.gates.drop_end hlt6] at hM
                              have HFm : Hid (N.gates.all (formM N) = true) := by unfold Hid; rw [← hM]; rfl
                              clear hM
                              go_wp2
                              go_ret; exact ⟨ret_int (by rw [← HR4.out, HFm.out]; rfl), hxW.trans hx6⟩
end Go.Proofs.Ytjagbnaacfhokaa
