/- net.Check walked. -/
import Derived.Test.YtlafiddfplhafaaFc04
namespace Go.Proofs.Ytlafiddfplhafaa
set_option linter.unusedVariables false
set_option linter.unusedSimpArgs false
set_option linter.unusedVariables false
set_option linter.unusedSimpArgs false
open Go.RowKit
theorem makeFunc_any (fn : Fn) (first cap : Array Value) (w : World) : (Instr.makeFunc fn first cap).run Try.prog w = .ok (.func fn first cap) w := rfl
theorem contains_false (l : List Bool) : l.contains false = !l.all id := by
  induction l with
  | nil => rfl
  | cons x l ih => cases x <;> simp_all
section
variable (w : World) (i : Int) (GA : Option Addr) (gn gc : Nat) (RA : Option Addr) (rn rc : Nat) (OA : Option Addr) (on oc : Nat)
/-- Check's world behind its head: the net's box, and the result's cell. -/
def chkW : World := (w.alloc (.cells #[I i, .slice GA gn gc, .slice RA rn rc, .slice OA on oc] 39)).alloc (.cells #[I 0] 25)
theorem chkW_ext : Ext w (chkW w i GA gn gc RA rn rc OA on oc) := ((Ext.refl w).alloc _).alloc _
theorem chkW_size : (chkW w i GA gn gc RA rn rc OA on oc).heap.size = w.heap.size + 2 := by simp [chkW]
theorem chkW_box : NetBox (chkW w i GA gn gc RA rn rc OA on oc) w.heap.size i GA gn gc RA rn rc OA on oc := (NetBox.new w i GA gn gc RA rn rc OA on oc _).keep (Keeps.alloc _ _)
theorem chkW_cell : (chkW w i GA gn gc RA rn rc OA on oc).cell? ⟨w.heap.size + 1, 0, none⟩ = some (I 0) := by
  unfold chkW
  have := World.cell?_alloc_new (w := w.alloc (.cells #[I i, .slice GA gn gc, .slice RA rn rc, .slice OA on oc] 39)) #[I 0] 25 0
  rw [World.size_alloc] at this
  rw [this]; rfl
theorem chkW_frozen : (chkW w i GA gn gc RA rn rc OA on oc).frozen? ⟨w.heap.size + 1, 0, none⟩ = false := by
  unfold chkW
  exact World.frozen?_alloc_at _ _ _ _ (by simp)
end
section
variable {w W0 wX : World} {i : Int} {GA : Option Addr} {gn gc : Nat} {RA : Option Addr} {rn rc : Nat} {OA : Option Addr} {on oc : Nat}
theorem chk_cell (hW0 : W0 = chkW w i GA gn gc RA rn rc OA on oc) (hx : Ext W0 wX) : wX.cell? ⟨w.heap.size + 1, 0, none⟩ = some (I 0) := by
  subst hW0; exact hx.keeps _ _ (chkW_cell w i GA gn gc RA rn rc OA on oc)
theorem chk_frozen (hW0 : W0 = chkW w i GA gn gc RA rn rc OA on oc) (hx : Ext W0 wX) : wX.frozen? ⟨w.heap.size + 1, 0, none⟩ = false := by
  subst hW0
  exact (Below.frozen (p := ⟨w.heap.size + 1, 0, none⟩) hx (by rw [chkW_size]; show w.heap.size + 1 < _; omega)).trans (chkW_frozen w i GA gn gc RA rn rc OA on oc)
theorem chk_box (hW0 : W0 = chkW w i GA gn gc RA rn rc OA on oc) (hx : Ext W0 wX) : NetBox wX w.heap.size i GA gn gc RA rn rc OA on oc := by
  subst hW0; exact (chkW_box w i GA gn gc RA rn rc OA on oc).keep hx.keeps
theorem chk_ext (hW0 : W0 = chkW w i GA gn gc RA rn rc OA on oc) (hx : Ext W0 wX) : Ext w wX := by
  subst hW0; exact (chkW_ext w i GA gn gc RA rn rc OA on oc).trans hx
theorem chk_fail (hW0 : W0 = chkW w i GA gn gc RA rn rc OA on oc) (hx : Ext W0 wX) (e M : Int) (hM : M = e) (tmps : Array Value) (h2 : tmps.getD 2 undef = .pointer (some ⟨w.heap.size + 1, 0, none⟩)) :
    bodyPostD Try.prog Try.f17 (fun e w' => e = .returned (I M) ∧ Ext w w') (Exit.panic [thrown e]) { tmps := tmps, defers := [{ target := .fn (.func 46) #[.pointer (some ⟨w.heap.size + 1, 0, none⟩)], args := #[] }] } wX :=
  door_panic tmps ⟨w.heap.size + 1, 0, none⟩ 0 e _ wX (chk_cell hW0 hx) (chk_frozen hW0 hx) h2 ⟨by rw [hM], ((chk_ext hW0 hx).alloc _).setCell (by show _ ≤ w.heap.size + 1; omega) _⟩
theorem chk_done (ex : Exit) (hex : ex = .ret ∨ ex = .normal) (hW0 : W0 = chkW w i GA gn gc RA rn rc OA on oc) (hx : Ext W0 wX) (M : Int) (hM : M = 0) (tmps : Array Value) (h2 : tmps.getD 2 undef = .pointer (some ⟨w.heap.size + 1, 0, none⟩)) :
    bodyPostD Try.prog Try.f17 (fun e w' => e = .returned (I M) ∧ Ext w w') ex { tmps := tmps, defers := [{ target := .fn (.func 46) #[.pointer (some ⟨w.heap.size + 1, 0, none⟩)], args := #[] }] } (wX.setCell ⟨w.heap.size + 1, 0, none⟩ (I 0)) :=
  door_ok ex hex tmps ⟨w.heap.size + 1, 0, none⟩ 0 _ _ (World.cell?_setCell_same _ _ _ (chk_cell hW0 hx)) h2 ⟨by rw [hM], ((chk_ext hW0 hx).setCell (by show _ ≤ w.heap.size + 1; omega) _).alloc _⟩
end
theorem pair_ok (a b : Bool) : [a, b].contains false = !(a && b) := by cases a <;> cases b <;> rfl
theorem one_ok' (a : Bool) : [a].contains false = !a := by cases a <;> rfl
set_option maxRecDepth 100000 in
set_option maxHeartbeats 8000000 in
theorem netCheck_any (i : Int) (GA : Option Addr) (gn gc : Nat) (RA : Option Addr) (rn rc : Nat) (OA : Option Addr) (on oc : Nat) (N : NetM) (w : World)
    (h : NetC w i GA gn gc RA rn rc OA on oc N) :
    Calls Try.prog 17 #[netV i GA gn gc RA rn rc OA on oc] w fun e w' => e = .returned (I (checkN N)) ∧ Ext w w' := by
  have hmf := makeFunc_any
  generalize hR : checkN N = R
  unfold checkN at hR
  have hx : [decide (i ≤ 3), decide ((gn : Int) ≤ 200), decide ((rn : Int) ≤ 20), decide ((on : Int) ≤ 3)].contains false = tooMany N := by
    rw [contains_false]
    have e1 := h.ins; have e2 := h.gates.1; have e3 := h.regs.1; have e4 := h.outs.len
    rw [Bool.eq_iff_iff]
    simp only [tooMany, Bool.or_eq_true, decide_eq_true_eq, ← e1, e2, e3, e4]
    simp; omega
  have HX := Lib.hid hx; clear hx
  have HN := Lib.hid h; clear h
  obtain ⟨W0, hW0⟩ : ∃ W0, W0 = chkW w i GA gn gc RA rn rc OA on oc := ⟨_, rfl⟩
  have hsz : W0.heap.size = w.heap.size + 2 := by rw [hW0]; exact chkW_size w i GA gn gc RA rn rc OA on oc
  have e0 : (w.alloc (.cells #[I i, .slice GA gn gc, .slice RA rn rc, .slice OA on oc] 39)).alloc (.cells #[.int .i64 0] 25) = W0 := hW0.symm
  have HW0 := Lib.hid hW0; have HE0 := Lib.hid e0; have HS := Lib.hid hsz
  clear hW0 e0 hsz
  cases ht : tooMany N
  case true =>
    rw [ht] at hR
    have HR : Hid (R = 2) := by unfold Hid; rw [← hR]; rfl
    have HT : Hid ([decide (i ≤ 3), decide ((gn : Int) ≤ 200), decide ((rn : Int) ≤ 20), decide ((on : Int) ≤ 3)].contains false = true) := by unfold Hid; rw [HX.out, ht]
    clear hR ht HX
    go_enter_defers Try.func17, Try.ntmps17
    go_wp2_with fail
    rw [HE0.out]
    refine (must_bad _ 4 4 _ 2 _ (by exact Sl.newAt W0 _ [Bv _, Bv _, Bv _, Bv _] _ (by have := HS.out; omega)) (by unfold maxLen; omega) HT.out).mono ?_; rintro e w1 ⟨rfl, rfl⟩
    go_wp2
    exact chk_fail HW0.out ((Ext.refl _).alloc _) 2 R HR.out _ rfl
  case false =>
    rw [ht] at hR
    have HR := Lib.hid hR
    have ht' := Lib.hid ht
    have HT : Hid ([decide (i ≤ 3), decide ((gn : Int) ≤ 200), decide ((rn : Int) ≤ 20), decide ((on : Int) ≤ 3)].contains false = false) := by unfold Hid; rw [HX.out, ht]
    clear hR ht HX
    go_enter_defers Try.func17, Try.ntmps17
    go_wp2_with fail
    rw [HE0.out]
    refine (must_ok _ 4 4 [decide (i ≤ 3), decide ((gn : Int) ≤ 200), decide ((rn : Int) ≤ 20), decide ((on : Int) ≤ 3)] 2 _ (by exact Sl.newAt W0 _ [Bv _, Bv _, Bv _, Bv _] _ (by have := HS.out; omega)) (by unfold maxLen; omega) HT.out).mono ?_; rintro e w1 ⟨rfl, rfl⟩
    obtain ⟨wa, hwa⟩ : ∃ wa, wa = W0.alloc (.cells #[.bool (decide (i ≤ 3)), .bool (decide ((gn : Int) ≤ 200)), .bool (decide ((rn : Int) ≤ 20)), .bool (decide ((on : Int) ≤ 3))] 4) := ⟨_, rfl⟩
    rw [← hwa]
    have hxa : Ext W0 wa := by rw [hwa]; exact (Ext.refl _).alloc _
    clear hwa
    obtain ⟨q0, q1, q2, q3⟩ := chk_box HW0.out hxa
    have hbd : N.ins ≤ 3 ∧ gn ≤ 200 ∧ rn ≤ 20 ∧ on ≤ 3 := by
      have e2 := HN.out.gates.1; have e3 := HN.out.regs.1; have e4 := HN.out.outs.len
      have := ht'.out
      simp only [tooMany, Bool.or_eq_false_iff, decide_eq_false_iff_not] at this
      omega
    have HBD := Lib.hid hbd
    have hgm : gn ≤ 9223372036854775807 := by omega
    have hrm : rn ≤ 9223372036854775807 := by omega
    clear hbd
    go_wp2
    clear q0 q1 q2 q3
    go_loopw [37] (fun j wr => ∃ k : Nat, k ≤ gn ∧ j = .int .i64 k ∧ Ext W0 wr ∧ (N.gates.drop k).any manyA = N.gates.any manyA) (fun j _ => gn - (intOf j).toNat)
    case atStart => exact ⟨0, Nat.zero_le _, rfl, hxa, rfl⟩
    case round =>
      obtain ⟨k, hk, rfl, hx1, hM⟩ := hrel
      by_cases hlt : k < gn
      · obtain ⟨b, off, A', m, c', g, rfl, g0, g1, g2, hs, hmc, hcm, hd, -⟩ := HN.out.gates.next hlt
        have hxw := chk_ext HW0.out hx1
        have c0 := hxw.keeps _ _ g0; have c1 := hxw.keeps _ _ g1; have c2 := hxw.keeps _ _ g2
        have hml := hs.len
        rw [hd, List.any_cons] at hM
        have HM := Lib.hid hM; have HML := Lib.hid hml; clear hM hd g0 g1 g2 hs hml hmc hcm hxw
        cases hb : manyA g
        · have HT : Hid ([decide ((m : Int) ≤ 16)].contains false = false) := by
            unfold Hid; rw [one_ok']; simp only [manyA, decide_eq_false_iff_not, HML.out] at hb; simp; omega
          have HB := Lib.hid hb; clear hb
          go_wp2_with fail
          refine (must_ok _ 1 1 [decide ((m : Int) ≤ 16)] 2 _ (by exact Sl.newAt _ _ [Bv _] _ (by simp)) (by unfold maxLen; omega) HT.out).mono ?_; rintro e w1 ⟨rfl, rfl⟩
          go_wp2
          go_roundw
          case rel => exact ⟨k + 1, by omega, by go_num, (hx1.alloc _).alloc _, by rw [← HM.out, HB.out]; simp⟩
          case measure => simp [intOf]; omega
        · have HT : Hid ([decide ((m : Int) ≤ 16)].contains false = true) := by
            unfold Hid; rw [one_ok']; simp only [manyA, decide_eq_true_eq, HML.out] at hb; simp; omega
          have HB := Lib.hid hb; clear hb
          go_wp2_with fail
          refine (must_bad _ 1 1 [decide ((m : Int) ≤ 16)] 2 _ (by exact Sl.newAt _ _ [Bv _] _ (by simp)) (by unfold maxLen; omega) HT.out).mono ?_; rintro e w1 ⟨rfl, rfl⟩
          go_wp2
          exact chk_fail HW0.out ((hx1.alloc _).alloc _) 2 R (by rw [← HR.out, ← HM.out, HB.out]; rfl) _ rfl
      · rw [HN.out.gates.drop_end hlt] at hM
        have HA : Hid (N.gates.any manyA = false) := by unfold Hid; rw [← hM]; rfl
        have HR1 : Hid ((if N.ins < 0 then 3 else if (namedM N).any (badPlace N.gates.length) then 3 else if N.gates.any badGK then 4 else if N.gates.all (formM N) then 0 else 1) = R) := by
          unfold Hid; rw [← HR.out, HA.out]; rfl
        have hii := HN.out.ins
        clear hM HR
        obtain ⟨q0, q1, q2, q3⟩ := chk_box HW0.out hx1
        by_cases hneg : N.ins < 0
        · have HT : Hid ([decide (0 ≤ i)].contains false = true) := by unfold Hid; rw [one_ok']; simp; omega
          have HG := Lib.hid hneg; clear hneg hii
          go_wp2_with fail
          refine (must_bad _ 1 1 [decide (0 ≤ i)] 3 _ (by exact Sl.newAt _ _ [Bv _] _ (by simp)) (by unfold maxLen; omega) HT.out).mono ?_; rintro e w1 ⟨rfl, rfl⟩
          go_wp2
          exact chk_fail HW0.out (hx1.alloc _) 3 R (by rw [← HR1.out, if_pos HG.out]) _ rfl
        · have HT : Hid ([decide (0 ≤ i)].contains false = false) := by unfold Hid; rw [one_ok']; simp; omega
          have HG := Lib.hid hneg; clear hneg hii
          go_wp2_with fail
          refine (must_ok _ 1 1 [decide (0 ≤ i)] 3 _ (by exact Sl.newAt _ _ [Bv _] _ (by simp)) (by unfold maxLen; omega) HT.out).mono ?_; rintro e w1 ⟨rfl, rfl⟩
          obtain ⟨wb, hwb⟩ : ∃ wb, wb = wr.alloc (.cells #[.bool (decide (0 ≤ i))] 4) := ⟨_, rfl⟩
          rw [← hwb]
          have hxb : Ext W0 wb := by rw [hwb]; exact hx1.alloc _
          clear hwb q0 q1 q2 q3
          obtain ⟨q0, q1, q2, q3⟩ := chk_box HW0.out hxb
          go_wp2_with fail
          refine (cloneInts_any OA on oc N.outs _ (HN.out.outs.keep (chk_ext HW0.out hxb).keeps) (by have := HBD.out; omega)).mono ?_; rintro e wc ⟨v, rfl, hown, hxc⟩
          have hxc' := hxb.trans hxc
          have HO := Lib.hid (own_base hown hxb.size)
          clear hown hxc q0 q1 q2 q3
          obtain ⟨q0, q1, q2, q3⟩ := chk_box HW0.out hxc'
          go_wp2
          clear q0 q1 q2 q3
          go_loopw [5, 59] (fun v j wr => ∃ (k : Nat) (zs : List Int), k ≤ rn ∧ j = .int .i64 k ∧ Ext W0 wr ∧ wr.ownsRow W0.heap.size 3 1 v (on + k) (zs.map I) ∧ zs ++ (N.regs.drop k).map (·.next) = N.outs ++ N.regs.map (·.next)) (fun _ j _ => rn - (intOf j).toNat)
          case atStart => exact ⟨0, N.outs, Nat.zero_le _, rfl, hxc', HO.out, rfl⟩
          case round =>
            obtain ⟨k2, zs, hk2, rfl, hx2, hown, hM⟩ := hrel
            by_cases hlt2 : k2 < rn
            · obtain ⟨b, off, r, rfl, g0, g1, hd, -⟩ := HN.out.regs.next hlt2
              have hxw := chk_ext HW0.out hx2
              have c0 := hxw.keeps _ _ g0; have c1 := hxw.keeps _ _ g1
              rw [hd, List.map_cons] at hM
              have HM := Lib.hid hM
              have HO2 := Lib.hid (own_ext hown ((Ext.refl _).alloc (.cells #[Bv r.fst, I r.next] 79)))
              clear hM hd g0 g1 hxw hown
              go_wp2_with (at_builtin; refine wpList_pushB rfl (.tmp 63) (.tmp 66) 23 3 rfl tab_int' Try.underlying23 rfl (by omega) W0 _ (hx2.alloc (.cells #[Bv r.fst, I r.next] 79)) _ (on + k2) _ rfl HO2.out [I r.next] rfl rfl _ rfl (by simp) (by simp [Value.oneCell']) (by have := HBD.out; unfold maxLen; omega) (by have := HBD.out; omega) ?_; intro v' w2 hown2 hx3 _)
              go_roundw
              case rel => exact ⟨k2 + 1, zs ++ [r.next], by omega, by go_num, hx3, by simpa [Nat.add_assoc] using hown2, by rw [← HM.out]; simp⟩
              case measure => simp [intOf]; omega
            · rw [HN.out.regs.drop_end hlt2] at hM
              have hk2n : k2 = rn := by omega
              subst hk2n
              have hz : zs = N.outs ++ N.regs.map (·.next) := by simpa using hM
              subst hz
              have HO2 := Lib.hid hown
              have hxs := hx2
              clear hM hown
              obtain ⟨q0, q1, q2, q3⟩ := chk_box HW0.out hx2
              have hgood : ∀ g ∈ N.gates, g.args.length ≤ 16 := fun g hg => by
                have := List.any_eq_false.1 HA.out g hg; simp [manyA] at this; omega
              have HG16 := Lib.hid hgood; clear hgood
              go_wp2
              clear q0 q1 q2 q3
              go_loopw [5, 72] (fun v j wr => ∃ (k L : Nat) (zs : List Int), k ≤ gn ∧ j = .int .i64 k ∧ Ext W0 wr ∧ wr.ownsRow W0.heap.size 3 1 v L (zs.map I) ∧ zs ++ (N.gates.drop k).flatMap (·.args) = namedM N ∧ L ≤ 23 + 16 * k) (fun _ j _ => gn - (intOf j).toNat)
              case atStart => exact ⟨0, on + k2, _, Nat.zero_le _, rfl, hxs, HO2.out, rfl, by have := HBD.out; omega⟩
              case round =>
                obtain ⟨k3, L, zs, hk3, rfl, hx3, hown, hM, hL⟩ := hrel
                by_cases hlt3 : k3 < gn
                · obtain ⟨b, off, A', m, c', g, rfl, g0, g1, g2, hs, hmc, hcm, hd, hgx⟩ := HN.out.gates.next hlt3
                  have hxw := chk_ext HW0.out hx3
                  have c0 := hxw.keeps _ _ g0; have c1 := hxw.keeps _ _ g1; have c2 := hxw.keeps _ _ g2
                  have hml := hs.len
                  have hm16 : m ≤ 16 := by have := HG16.out g (List.mem_of_getElem? hgx); omega
                  rw [hd, List.flatMap_cons] at hM
                  have HM := Lib.hid hM
                  have hxg : ∀ o, Ext wr (wr.alloc o) := fun o => (Ext.refl _).alloc o
                  have HO3 := Lib.hid (own_ext hown (hxg (.cells #[I g.kind, I g.num, .slice A' m c'] 95)))
                  have HSG := Lib.hid ((hs.keep hxw.keeps).keep (Keeps.alloc wr (.cells #[I g.kind, I g.num, .slice A' m c'] 95)))
                  have HL := Lib.hid hL; have H16 := Lib.hid hm16
                  clear hM hd g0 g1 g2 hs hml hmc hcm hxw hown hgx hxg hL hm16
                  go_wp2_with (at_builtin; refine wpList_appendAll rfl (.tmp 76) (.tmp 78) 23 3 rfl tab_int' Try.underlying23 rfl W0 (hx3.alloc (.cells #[I g.kind, I g.num, .slice A' m c'] 95)) _ L _ rfl HO3.out A' m c' _ rfl HSG.out (ints_one g.args) (by have := HL.out; have := H16.out; have := HBD.out; unfold maxLen; omega) (by have := HL.out; have := H16.out; have := HBD.out; omega) ?_; intro v' w2 hown2 hx4 _)
                  go_roundw
                  case rel => exact ⟨k3 + 1, L + m, zs ++ g.args, by omega, by go_num, hx4, by simpa using hown2, by rw [← HM.out]; simp, by have := HL.out; have := H16.out; omega⟩
                  case measure => simp [intOf]; omega
                · rw [HN.out.gates.drop_end hlt3] at hM
                  have hz : zs = namedM N := by simpa using hM
                  subst hz
                  obtain ⟨C, cc, rfl, hcc, hcm, hsl⟩ := own_sl hown
                  have HSL := Lib.hid hsl
                  have hLm : L ≤ 9223372036854775807 := by have := HBD.out; omega
                  have hxs3 := hx3
                  have HL := Lib.hid hL
                  clear hM hown hsl hcc hcm hL
                  go_wp2
                  obtain ⟨ws, rfl⟩ : ∃ ws : World, ws = wr := ⟨_, rfl⟩
                  go_loopw [11, 83] (fun _ j wr => ∃ (k : Nat), k ≤ L ∧ j = .int .i64 k ∧ Ext ws wr ∧ ((namedM N).drop k).any (badPlace gn) = (namedM N).any (badPlace gn)) (fun _ j _ => L - (intOf j).toNat)
                  case atStart => exact ⟨0, Nat.zero_le _, rfl, Ext.refl _, rfl⟩
                  case round =>
                    obtain ⟨k4, hk4, rfl, hx4, hM⟩ := hrel
                    have hx40 := hxs3.trans hx4
                    have hgl : N.gates.length = gn := HN.out.gates.1
                    by_cases hlt4 : k4 < L
                    · obtain ⟨b, off, x, rfl, c0', hd⟩ := HSL.out.next hlt4
                      have c0 := hx4.keeps _ _ c0'
                      obtain ⟨q0, q1, q2, q3⟩ := chk_box HW0.out hx40
                      rw [hd, List.any_cons] at hM
                      have HM := Lib.hid hM; have HGL := Lib.hid hgl
                      clear hM hd c0' hgl
                      cases hb : badPlace gn x
                      · have HT : Hid ([decide (0 ≤ x), decide (x < (gn : Int))].contains false = false) := by
                          unfold Hid; rw [pair_ok]; simp [badPlace] at hb; simp; omega
                        have HB := Lib.hid hb; clear hb
                        go_wp2_with fail
                        refine (must_ok _ 2 2 [decide (0 ≤ x), decide (x < (gn : Int))] 3 _ (by exact Sl.newAt _ _ [Bv _, Bv _] _ (by simp)) (by unfold maxLen; omega) HT.out).mono ?_; rintro e w1 ⟨rfl, rfl⟩
                        go_wp2
                        go_roundw
                        case rel => exact ⟨k4 + 1, by omega, by go_num, hx4.alloc _, by rw [← HM.out, HB.out]; simp⟩
                        case measure => simp [intOf]; omega
                      · have HT : Hid ([decide (0 ≤ x), decide (x < (gn : Int))].contains false = true) := by
                          unfold Hid; rw [pair_ok]; simp [badPlace] at hb; simp; omega
                        have HB := Lib.hid hb; clear hb
                        go_wp2_with fail
                        refine (must_bad _ 2 2 [decide (0 ≤ x), decide (x < (gn : Int))] 3 _ (by exact Sl.newAt _ _ [Bv _, Bv _] _ (by simp)) (by unfold maxLen; omega) HT.out).mono ?_; rintro e w1 ⟨rfl, rfl⟩
                        go_wp2
                        exact chk_fail HW0.out (hx40.alloc _) 3 R (by rw [← HR1.out, HGL.out, ← HM.out, HB.out]; have := HG.out; rw [if_neg (show ¬ N.ins < 0 by omega)]; rfl) _ rfl
                    · rw [HSL.out.drop_end hlt4] at hM
                      have HP : Hid ((namedM N).any (badPlace N.gates.length) = false) := by unfold Hid; rw [hgl, ← hM]; rfl
                      have HR2 : Hid ((if N.gates.any badGK then 4 else if N.gates.all (formM N) then 0 else 1) = R) := by
                        unfold Hid; rw [← HR1.out, HP.out]; have := HG.out; rw [if_neg (show ¬ N.ins < 0 by omega)]; rfl
                      obtain ⟨q0, q1, q2, q3⟩ := chk_box HW0.out hx40
                      clear hM hgl
                      go_wp2
                      clear q0 q1 q2 q3
                      go_loopw [13, 100] (fun _ j wr => ∃ (k : Nat), k ≤ gn ∧ j = .int .i64 k ∧ Ext W0 wr ∧ (N.gates.drop k).any badGK = N.gates.any badGK) (fun _ j _ => gn - (intOf j).toNat)
                      case atStart => exact ⟨0, Nat.zero_le _, rfl, hx40, rfl⟩
                      case round =>
                        obtain ⟨k5, hk5, rfl, hx5, hM⟩ := hrel
                        by_cases hlt5 : k5 < gn
                        · obtain ⟨b, off, A', m, c', g, rfl, g0, g1, g2, -, -, -, hd, -⟩ := HN.out.gates.next hlt5
                          have hxw := chk_ext HW0.out hx5
                          have c0 := hxw.keeps _ _ g0; have c1 := hxw.keeps _ _ g1; have c2 := hxw.keeps _ _ g2
                          rw [hd, List.any_cons] at hM
                          have HM := Lib.hid hM; clear hM hd g0 g1 g2 hxw
                          cases hb : badGK g
                          · have HT : Hid ([decide (0 ≤ g.kind), decide (g.kind ≤ 6)].contains false = false) := by
                              unfold Hid; rw [pair_ok]; simp [badGK] at hb; simp; omega
                            have HB := Lib.hid hb; clear hb
                            go_wp2_with fail
                            refine (must_ok _ 2 2 [decide (0 ≤ g.kind), decide (g.kind ≤ 6)] 4 _ (by exact Sl.newAt _ _ [Bv _, Bv _] _ (by simp)) (by unfold maxLen; omega) HT.out).mono ?_; rintro e w1 ⟨rfl, rfl⟩
                            go_wp2
                            go_roundw
                            case rel => exact ⟨k5 + 1, by omega, by go_num, (hx5.alloc _).alloc _, by rw [← HM.out, HB.out]; simp⟩
                            case measure => simp [intOf]; omega
                          · have HT : Hid ([decide (0 ≤ g.kind), decide (g.kind ≤ 6)].contains false = true) := by
                              unfold Hid; rw [pair_ok]; simp [badGK] at hb; simp; omega
                            have HB := Lib.hid hb; clear hb
                            go_wp2_with fail
                            refine (must_bad _ 2 2 [decide (0 ≤ g.kind), decide (g.kind ≤ 6)] 4 _ (by exact Sl.newAt _ _ [Bv _, Bv _] _ (by simp)) (by unfold maxLen; omega) HT.out).mono ?_; rintro e w1 ⟨rfl, rfl⟩
                            go_wp2
                            exact chk_fail HW0.out ((hx5.alloc _).alloc _) 4 R (by rw [← HR2.out, ← HM.out, HB.out]; rfl) _ rfl
                        · rw [HN.out.gates.drop_end hlt5] at hM
                          have HK : Hid (N.gates.any badGK = false) := by unfold Hid; rw [← hM]; rfl
                          have HR3 : Hid ((if N.gates.all (formM N) then 0 else 1) = R) := by unfold Hid; rw [← HR2.out, HK.out]; rfl
                          obtain ⟨q0, q1, q2, q3⟩ := chk_box HW0.out hx5
                          clear hM
                          go_wp2
                          clear q0 q1 q2 q3
                          go_loopw [15, 116] (fun _ j wr => ∃ (k : Nat), k ≤ gn ∧ j = .int .i64 k ∧ Ext W0 wr ∧ (N.gates.drop k).all (formM N) = N.gates.all (formM N)) (fun _ j _ => gn - (intOf j).toNat)
                          case atStart => exact ⟨0, Nat.zero_le _, rfl, hx5, rfl⟩
                          case round =>
                            obtain ⟨k6, hk6, rfl, hx6, hM⟩ := hrel
                            have q0 := fun o => (chk_box HW0.out (hx6.alloc o)).1
                            have q1 := fun o => (chk_box HW0.out (hx6.alloc o)).2.1
                            have q2 := fun o => (chk_box HW0.out (hx6.alloc o)).2.2.1
                            have q3 := fun o => (chk_box HW0.out (hx6.alloc o)).2.2.2
                            by_cases hlt6 : k6 < gn
                            · obtain ⟨b, off, A', m, c', g, rfl, g0, g1, g2, hs, -, -, hd, hgx⟩ := HN.out.gates.next hlt6
                              have hxw := chk_ext HW0.out hx6
                              have c0 := hxw.keeps _ _ g0; have c1 := hxw.keeps _ _ g1; have c2 := hxw.keeps _ _ g2
                              rw [hd, List.all_cons] at hM
                              have hml := hs.len
                              have hm16 : m ≤ 16 := by have := HG16.out g (List.mem_of_getElem? hgx); omega
                              have H16 := Lib.hid hm16; have HML := Lib.hid hml
                              have HM := Lib.hid hM; clear hM hd g0 g1 g2 hxw hs hgx hm16 hml
                              have hcF := fun W => form_any i (some ⟨b, off, none⟩) gn gc RA _ rc OA on oc A' m c' N g W HN.out.ins.symm (by have := HG.out; have := HN.out.ins; omega) (by have := HBD.out; have := HN.out.ins; omega) HN.out.regs.1 (by have := HBD.out; omega) HML.out H16.out
                              have HCF := Lib.hid hcF; clear hcF
                              cases hb : formM N g
                              · have HB := Lib.hid hb; clear hb
                                go_wp2_with fail
                                refine (HCF.out _).mono ?_; rintro e w1 ⟨rfl, hf⟩; rw [HB.out]
                                have hx7 := (hx6.alloc (.cells #[I g.kind, I g.num, .slice A' m c'] 95)).trans hf
                                clear hf
                                go_wp2_with fail
                                refine (must_bad _ 1 1 [false] 1 _ (by exact Sl.newAt _ _ [Bv false] _ (by simp)) (by unfold maxLen; omega) rfl).mono ?_; rintro e w2 ⟨rfl, rfl⟩
                                go_wp2
                                exact chk_fail HW0.out (hx7.alloc _) 1 R (by rw [← HR3.out, ← HM.out, HB.out]; rfl) _ rfl
                              · have HB := Lib.hid hb; clear hb
                                go_wp2_with fail
                                refine (HCF.out _).mono ?_; rintro e w1 ⟨rfl, hf⟩; rw [HB.out]
                                have hx7 := (hx6.alloc (.cells #[I g.kind, I g.num, .slice A' m c'] 95)).trans hf
                                clear hf
                                go_wp2_with fail
                                refine (must_ok _ 1 1 [true] 1 _ (by exact Sl.newAt _ _ [Bv true] _ (by simp)) (by unfold maxLen; omega) rfl).mono ?_; rintro e w2 ⟨rfl, rfl⟩
                                go_wp2
                                go_roundw
                                case rel => exact ⟨k6 + 1, by omega, by go_num, hx7.alloc _, by rw [← HM.out, HB.out]; simp⟩
                                case measure => simp [intOf]; omega
                            · rw [HN.out.gates.drop_end hlt6] at hM
                              have HF : Hid (N.gates.all (formM N) = true) := by unfold Hid; rw [← hM]; rfl
                              have hcell := chk_cell HW0.out hx6
                              have hfz := chk_frozen HW0.out hx6
                              clear hM q0 q1 q2 q3
                              go_wp2
                              exact chk_done .ret (.inl rfl) HW0.out hx6 R (by rw [← HR3.out, HF.out]; rfl) _ rfl
end Go.Proofs.Ytlafiddfplhafaa
