/- The bodies of EvalSteps, EvalSolves, EvalTrue and EvalMore, from the contracts. -/
import Derived.Test.YtjagbnaacfhokaaEvalBegun
import Derived.Test.YtjagbnaacfhokaaTern2
namespace Go.Proofs.Ytjagbnaacfhokaa
set_option linter.unusedVariables false
set_option linter.unusedSimpArgs false
open Go.RowKit

theorem stepV_ok {N : NetM} {regs ins : List Int} (h : (stepV N regs ins).2 = 0) : askedM N regs ins = 0 ∧ (stepV N regs ins).1 = settledM N.gates regs ins := by
  unfold stepV at h ⊢
  by_cases h0 : askedM N regs ins = 0
  · rw [if_neg (by simp [h0])]; exact ⟨h0, rfl⟩
  · rw [if_pos h0] at h; exact absurd h h0
theorem solves_settled {N : NetM} {regs ins : List Int} (h : askedM N regs ins = 0) : solvesV N regs ins (settledM N.gates regs ins) = (true, 0) := by
  have ak := askedM_ok h
  have hb : (settledM N.gates regs ins).any bad3 = false := goodL_any (settled_good ak.rg ak.ig)
  unfold solvesV
  rw [if_neg (by simp [h]), if_neg (by simp [settled_len]), hb, if_neg (by simp), decide_eq_true (settled_least N.gates regs ins).fix]
theorem solves_of {N : NetM} {regs ins v : List Int} (h : askedM N regs ins = 0) (hs : solvesV N regs ins v = (true, 0)) : v.length = N.gates.length ∧ goodL v ∧ nextV N.gates regs ins v = v := by
  unfold solvesV at hs
  rw [if_neg (by simp [h])] at hs
  split at hs
  · simp at hs
  rename_i h1
  cases hb : v.any bad3 with
  | true => rw [hb] at hs; simp at hs
  | false =>
    rw [hb] at hs
    simp at hs
    exact ⟨by omega, goodL_of hb, hs⟩
theorem leqOfM_good {a b : List Int} (ha : goodL a) (hb : goodL b) (hl : a.length = b.length) : leqOfM a b = (leqM a b, 0) := by
  unfold leqOfM
  rw [goodL_any ha, goodL_any hb]; simp [hl]

section
variable (i : Int) (GA : Option Addr) (gn gc : Nat) (RA : Option Addr) (rn rc : Nat) (OA : Option Addr) (on oc : Nat) (N : NetM) (RB : Option Addr) (pn pc : Nat) (IA : Option Addr) (jn jc : Nat) (regs ins : List Int) (w : World)

set_option maxHeartbeats 2000000 in
theorem evalSteps_walk (h : NetC w i GA gn gc RA rn rc OA on oc N) (hr : Sl w RB pn (regs.map I)) (hi : Sl w IA jn (ins.map I)) (hpm : pn ≤ maxLen) (hjm : jn ≤ maxLen) (hlo : -9223372036854775808 ≤ i) :
    Calls Try.prog 4 #[netV i GA gn gc RA rn rc OA on oc, .slice RB pn pc, .slice IA jn jc] w fun e w' => e = .returned (.bool true) ∧ Ext w w' := by
  obtain ⟨W, hW⟩ : ∃ W, W = w.alloc (.cells #[I i, .slice GA gn gc, .slice RA rn rc, .slice OA on oc] 26) := ⟨_, rfl⟩
  have hxW : Ext w W := by rw [hW]; exact (Ext.refl _).alloc _
  have hbox : NetBox W w.heap.size i GA gn gc RA rn rc OA on oc := by rw [hW]; exact NetBox.new w i GA gn gc RA rn rc OA on oc _
  have HN := Lib.hid (h.keep hxW.keeps); have HBox := Lib.hid hbox; have HW := Lib.hid hW; have HX := Lib.hid hxW
  have HR := Lib.hid (hr.keep hxW.keeps); have HI := Lib.hid (hi.keep hxW.keeps)
  clear h hr hi hW hxW hbox
  go_enter Try.func4, Try.ntmps4
  go_wp2_with fail
  rw [← HW.out]
  refine (evalStep_any i GA gn gc RA rn rc OA on oc N RB pn pc IA jn jc regs ins W HN.out HR.out HI.out hpm hjm).mono ?_; rintro e w1 ⟨v, rfl, hown, x1⟩
  generalize hM : stepV N regs ins = M at *
  obtain ⟨A1', c1, rfl, n1, m1, hs1⟩ := own_sl hown
  obtain ⟨q0, q1, q2, q3⟩ := HBox.out.keep x1.keeps
  have S1 := Lib.hid hs1; have X1 := Lib.hid x1; have HM := Lib.hid hM; clear hs1 x1 hown hM
  go_wp2_with fail
  refine (stepOf_any i GA gn gc RA rn rc OA on oc N RB pn pc IA jn jc regs ins w1 (HN.out.keep X1.out.keeps) (HR.out.keep X1.out.keeps) (HI.out.keep X1.out.keeps) hpm hjm hlo).mono ?_; rintro e w2 ⟨v, rfl, hown, x2⟩
  rw [HM.out] at hown ⊢
  obtain ⟨A2, c2, rfl, n2, m2, hs2⟩ := own_sl hown
  have S1' := Lib.hid (S1.out.keep x2.keeps); have S2 := Lib.hid hs2; have X2 := Lib.hid (X1.out.trans x2); clear hs2 x2 hown q0 q1 q2 q3
  go_wp2_with fail
  refine (evalBegun_any w2).mono ?_; rintro e w3 ⟨rfl, x3⟩
  have X3 := Lib.hid x3; clear x3
  go_wp2_with fail
  refine (sameInts_any A1' A2 _ _ c1 c2 M.1 M.1 w3 (S1'.out.keep X3.out.keeps) (S2.out.keep X3.out.keeps) (Nat.le_trans n1 m1) (Nat.le_trans n1 m1)).mono ?_; rintro e w4 ⟨rfl, m, rfl⟩
  go_wp2
  go_ret
  exact ⟨by simp, (HX.out.trans (X2.out.trans X3.out)).drewN _⟩

set_option maxHeartbeats 2000000 in
theorem evalSolves_walk (VA : Option Addr) (vn vc : Nat) (v : List Int) (h : NetC w i GA gn gc RA rn rc OA on oc N) (hr : Sl w RB pn (regs.map I)) (hi : Sl w IA jn (ins.map I)) (hv : Sl w VA vn (v.map I)) (hpm : pn ≤ maxLen) (hjm : jn ≤ maxLen) (hvm : vn ≤ maxLen) (hlo : -9223372036854775808 ≤ i) :
    Calls Try.prog 5 #[netV i GA gn gc RA rn rc OA on oc, .slice RB pn pc, .slice IA jn jc, .slice VA vn vc] w fun e w' => e = .returned (.bool true) ∧ Ext w w' := by
  obtain ⟨W, hW⟩ : ∃ W, W = w.alloc (.cells #[I i, .slice GA gn gc, .slice RA rn rc, .slice OA on oc] 26) := ⟨_, rfl⟩
  have hxW : Ext w W := by rw [hW]; exact (Ext.refl _).alloc _
  have hbox : NetBox W w.heap.size i GA gn gc RA rn rc OA on oc := by rw [hW]; exact NetBox.new w i GA gn gc RA rn rc OA on oc _
  have HN := Lib.hid (h.keep hxW.keeps); have HBox := Lib.hid hbox; have HW := Lib.hid hW; have HX := Lib.hid hxW
  have HR := Lib.hid (hr.keep hxW.keeps); have HI := Lib.hid (hi.keep hxW.keeps); have HV := Lib.hid (hv.keep hxW.keeps)
  clear h hr hi hv hW hxW hbox
  go_enter Try.func5, Try.ntmps5
  go_wp2_with fail
  rw [← HW.out]
  refine (evalSolves_any i GA gn gc RA rn rc OA on oc N RB pn pc IA jn jc VA vn vc regs ins v W HN.out HR.out HI.out HV.out hpm hjm hvm).mono ?_; rintro e w1 ⟨rfl, x1⟩
  generalize hM : solvesV N regs ins v = M at *
  obtain ⟨q0, q1, q2, q3⟩ := HBox.out.keep x1.keeps
  have X1 := Lib.hid x1; have HM := Lib.hid hM; clear x1 hM
  go_wp2_with fail
  refine (solvesOf_any i GA gn gc RA rn rc OA on oc N RB pn pc IA jn jc VA vn vc regs ins v w1 (HN.out.keep X1.out.keeps) (HR.out.keep X1.out.keeps) (HI.out.keep X1.out.keeps) (HV.out.keep X1.out.keeps) hpm hjm hvm hlo).mono ?_; rintro e w2 ⟨rfl, x2⟩
  rw [HM.out]
  have X2 := Lib.hid (X1.out.trans x2); clear x2 q0 q1 q2 q3
  obtain ⟨b, z⟩ := M
  go_wp2_with fail
  refine (evalBegun_any w2).mono ?_; rintro e w3 ⟨rfl, x3⟩
  go_wp2
  go_ret
  exact ⟨by simp, HX.out.trans (X2.out.trans x3)⟩

set_option maxHeartbeats 4000000 in
theorem evalTrue_walk (VA : Option Addr) (vn vc : Nat) (v : List Int) (h : NetC w i GA gn gc RA rn rc OA on oc N) (hr : Sl w RB pn (regs.map I)) (hi : Sl w IA jn (ins.map I)) (hv : Sl w VA vn (v.map I)) (hpm : pn ≤ maxLen) (hjm : jn ≤ maxLen) (hvm : vn ≤ maxLen) :
    Calls Try.prog 8 #[netV i GA gn gc RA rn rc OA on oc, .slice RB pn pc, .slice IA jn jc, .slice VA vn vc] w fun e w' => e = .returned (.bool true) ∧ Ext w w' := by
  obtain ⟨W, hW⟩ : ∃ W, W = w.alloc (.cells #[I i, .slice GA gn gc, .slice RA rn rc, .slice OA on oc] 26) := ⟨_, rfl⟩
  have hxW : Ext w W := by rw [hW]; exact (Ext.refl _).alloc _
  have hbox : NetBox W w.heap.size i GA gn gc RA rn rc OA on oc := by rw [hW]; exact NetBox.new w i GA gn gc RA rn rc OA on oc _
  have HN := Lib.hid (h.keep hxW.keeps); have HBox := Lib.hid hbox; have HW := Lib.hid hW; have HX := Lib.hid hxW
  have HR := Lib.hid (hr.keep hxW.keeps); have HI := Lib.hid (hi.keep hxW.keeps); have HV := Lib.hid (hv.keep hxW.keeps)
  clear h hr hi hv hW hxW hbox
  by_cases h0 : (stepV N regs ins).2 = 0
  · obtain ⟨ha, hs⟩ := stepV_ok h0
    have hsol := solves_settled ha
    have ak := askedM_ok ha
    have hsg := settled_good (gs := N.gates) ak.rg ak.ig
    have hso := fun (hs : solvesV N regs ins v = (true, 0)) => solves_of ha hs
    generalize hS : settledM N.gates regs ins = S at hs hsol hsg
    have hle := fun (hs : solvesV N regs ins v = (true, 0)) => solves_leq (hso hs).1 (hso hs).2.2
    have hsa := fun (hs : solvesV N regs ins v = (true, 0)) => solves_same (hso hs).1 (hso hs).2.2
    have hlen : S.length = N.gates.length := by rw [← hS, settled_len]
    rw [hS] at hle hsa
    have HS := Lib.hid hs; have H0 := Lib.hid h0; have HSOL := Lib.hid hsol; have HSG := Lib.hid hsg; have HSO := Lib.hid hso; have HLE := Lib.hid hle; have HSA := Lib.hid hsa; have HLEN := Lib.hid hlen
    clear hs h0 hsol hsg hso hle hsa ak ha hS hlen
    go_enter Try.func8, Try.ntmps8
    go_wp2_with fail
    rw [← HW.out]
    refine (evalStep_any i GA gn gc RA rn rc OA on oc N RB pn pc IA jn jc regs ins W HN.out HR.out HI.out hpm hjm).mono ?_; rintro e w1 ⟨x, rfl, hown, x1⟩
    rw [H0.out]; rw [HS.out] at hown
    obtain ⟨A1', c1, rfl, n1, m1, hs1⟩ := own_sl hown
    obtain ⟨q0, q1, q2, q3⟩ := HBox.out.keep x1.keeps
    have S1 := Lib.hid hs1; have X1 := Lib.hid x1; have N1 := Lib.hid (Nat.le_trans n1 m1); clear hs1 x1 hown n1 m1
    go_wp2_with fail
    refine (evalSolves_any i GA gn gc RA rn rc OA on oc N RB pn pc IA jn jc A1' S.length c1 regs ins S w1 (HN.out.keep X1.out.keeps) (HR.out.keep X1.out.keeps) (HI.out.keep X1.out.keeps) S1.out hpm hjm N1.out).mono ?_; rintro e w2 ⟨rfl, x2⟩
    rw [HSOL.out]
    have X2 := Lib.hid (X1.out.trans x2); have S2 := Lib.hid (S1.out.keep x2.keeps); clear x2 q0 q1 q2 q3 X1 S1
    obtain ⟨q0, q1, q2, q3⟩ := HBox.out.keep X2.out.keeps
    go_wp2_with fail
    refine (evalSolves_any i GA gn gc RA rn rc OA on oc N RB pn pc IA jn jc VA vn vc regs ins v w2 (HN.out.keep X2.out.keeps) (HR.out.keep X2.out.keeps) (HI.out.keep X2.out.keeps) (HV.out.keep X2.out.keeps) hpm hjm hvm).mono ?_; rintro e w3 ⟨rfl, x3⟩
    have X3 := Lib.hid (X2.out.trans x3); have S3 := Lib.hid (S2.out.keep x3.keeps); clear x3 q0 q1 q2 q3 X2 S2
    generalize hG : solvesV N regs ins v = G at *
    obtain ⟨b, z⟩ := G
    by_cases hz : z = 0
    · subst hz
      cases b
      · clear hG
        go_wp2_with fail
        refine (evalBegun_any w3).mono ?_; rintro e w4 ⟨rfl, x4⟩
        go_wp2
        go_ret
        exact ⟨rfl, HX.out.trans (X3.out.trans x4)⟩
      · have hv3 := HSO.out rfl
        have hlm := HLE.out rfl
        have hle2 : leqOfM S v = (true, 0) := by rw [leqOfM_good HSG.out hv3.2.1 (by rw [HLEN.out, hv3.1]), hlm]
        have HL2 := Lib.hid hle2
        have hsa2 := HSA.out rfl
        have HSA2 := Lib.hid hsa2
        have hN1 := N1.out
        unfold maxLen at hN1
        clear hv3 hlm hle2 hsa2 hG
        go_wp2_with fail
        refine (ternLeq_any A1' VA S.length vn c1 vc S v w3 S3.out (HV.out.keep X3.out.keeps) N1.out hvm).mono ?_; rintro e w4 ⟨rfl, x4⟩
        rw [HL2.out]
        have X4 := Lib.hid (X3.out.trans x4); have S4 := Lib.hid (S3.out.keep x4.keeps); clear x4 X3 S3
        go_wp2_with fail
        go_loopw [17, 18] (fun o j wr => ∃ k : Nat, k ≤ S.length ∧ j = .int .i64 k ∧ o = Bv ((S.take k).contains 2) ∧ wr = w4) (fun _ j _ => S.length - (intOf j).toNat)
        case atStart => exact ⟨0, Nat.zero_le _, rfl, by simp, rfl⟩
        case round =>
          obtain ⟨k, hk, rfl, rfl, rfl⟩ := hrel
          by_cases hlt : k < S.length
          · obtain ⟨b, off, y, rfl, hc, hy⟩ := S4.out.at_ hlt
            have hs : (S.take (k + 1)).contains 2 = ((S.take k).contains 2 || (y == 2)) := by
              rw [List.take_add_one, hy]; simp [List.contains_append]; congr 1; rw [Bool.eq_iff_iff, decide_eq_true_iff, beq_iff_eq]; exact ⟨Eq.symm, Eq.symm⟩
            have HSS := Lib.hid hs; clear hs hy
            cases hb : (S.take k).contains 2
            · rw [hb] at HSS
              go_wp2
              go_roundw
              case rel => exact ⟨k + 1, by omega, by go_num, by rw [HSS.out]; simp⟩
              case measure => simp [intOf]; omega
            · rw [hb] at HSS
              go_wp2
              go_roundw
              case rel => exact ⟨k + 1, by omega, by go_num, by rw [HSS.out]; simp⟩
              case measure => simp [intOf]; omega
          · have hkn : k = S.length := by omega
            rw [hkn, List.take_length]
            clear hlt hk hkn
            cases hb : S.contains 2
            · have hsv : S = v := HSA2.out (by simpa using hb)
              have HSV := Lib.hid hsv; clear hsv hb
              go_wp2_with fail
              refine (evalBegun_any wr).mono ?_; rintro e w5 ⟨rfl, x5⟩
              have X5 := Lib.hid x5; clear x5
              go_wp2_with fail
              refine (sameInts_any A1' VA _ _ c1 vc S v w5 (S4.out.keep X5.out.keeps) (HV.out.keep (X4.out.trans X5.out).keeps) N1.out hvm).mono ?_; rintro e w6 ⟨rfl, m, rfl⟩
              rw [decide_eq_true HSV.out]
              go_wp2
              go_ret
              exact ⟨rfl, (HX.out.trans (X4.out.trans X5.out)).drewN _⟩
            · clear hb
              go_wp2_with fail
              refine (evalBegun_any wr).mono ?_; rintro e w5 ⟨rfl, x5⟩
              go_wp2
              go_ret
              exact ⟨rfl, HX.out.trans (X4.out.trans x5)⟩
    · have hzb : (z != 0) = true := by simpa using hz
      clear hG hz
      go_wp2_with fail
      refine (evalBegun_any w3).mono ?_; rintro e w4 ⟨rfl, x4⟩
      go_wp2
      go_ret
      exact ⟨rfl, HX.out.trans (X3.out.trans x4)⟩
  · have hg : ((stepV N regs ins).2 != 0) = true := by simpa using h0
    clear h0
    go_enter Try.func8, Try.ntmps8
    go_wp2_with fail
    rw [← HW.out]
    refine (evalStep_any i GA gn gc RA rn rc OA on oc N RB pn pc IA jn jc regs ins W HN.out HR.out HI.out hpm hjm).mono ?_; rintro e w1 ⟨x, rfl, hown, x1⟩
    generalize stepV N regs ins = M at *
    clear hown
    go_wp2_with fail
    refine (evalBegun_any w1).mono ?_; rintro e w4 ⟨rfl, x4⟩
    go_wp2
    go_ret
    exact ⟨rfl, HX.out.trans (x1.trans x4)⟩

set_option maxHeartbeats 4000000 in
theorem evalMore_walk (RM : Option Addr) (un uc : Nat) (IM : Option Addr) (tn tc : Nat) (more there : List Int) (h : NetC w i GA gn gc RA rn rc OA on oc N) (hr : Sl w RB pn (regs.map I)) (hi : Sl w IA jn (ins.map I)) (hm : Sl w RM un (more.map I)) (ht : Sl w IM tn (there.map I)) (hpm : pn ≤ maxLen) (hjm : jn ≤ maxLen) (hum : un ≤ maxLen) (htm : tn ≤ maxLen) :
    Calls Try.prog 9 #[netV i GA gn gc RA rn rc OA on oc, .slice RB pn pc, .slice IA jn jc, .slice RM un uc, .slice IM tn tc] w fun e w' => e = .returned (.bool true) ∧ Ext w w' := by
  obtain ⟨W, hW⟩ : ∃ W, W = w.alloc (.cells #[I i, .slice GA gn gc, .slice RA rn rc, .slice OA on oc] 26) := ⟨_, rfl⟩
  have hxW : Ext w W := by rw [hW]; exact (Ext.refl _).alloc _
  have hbox : NetBox W w.heap.size i GA gn gc RA rn rc OA on oc := by rw [hW]; exact NetBox.new w i GA gn gc RA rn rc OA on oc _
  have HN := Lib.hid (h.keep hxW.keeps); have HBox := Lib.hid hbox; have HW := Lib.hid hW; have HX := Lib.hid hxW
  have HR := Lib.hid (hr.keep hxW.keeps); have HI := Lib.hid (hi.keep hxW.keeps); have HMO := Lib.hid (hm.keep hxW.keeps); have HTH := Lib.hid (ht.keep hxW.keeps)
  clear h hr hi hm ht hW hxW hbox
  have both : ∀ a b : Int, a = 0 → b = 0 → (stepV N regs ins).2 = a → (stepV N more there).2 = b →
      (leqOfM regs more).2 = 0 ∧ (leqOfM ins there).2 = 0 ∧ (leqOfM (stepV N regs ins).1 (stepV N more there).1).2 = 0 ∧ (((leqOfM regs more).1 = true) → (leqOfM ins there).1 = true → (leqOfM (stepV N regs ins).1 (stepV N more there).1).1 = true) := by
    rintro a b rfl rfl ha hb
    obtain ⟨a1, s1⟩ := stepV_ok ha
    obtain ⟨b1, s2⟩ := stepV_ok hb
    have k1 := askedM_ok a1; have k2 := askedM_ok b1
    have l1 : regs.length = more.length := by rw [k1.rl, k2.rl]
    have l2 : ins.length = there.length := by have := k1.il; have := k2.il; omega
    rw [leqOfM_good k1.rg k2.rg l1, leqOfM_good k1.ig k2.ig l2, s1, s2, leqOfM_good (settled_good k1.rg k1.ig) (settled_good k2.rg k2.ig) (by rw [settled_len, settled_len])]
    exact ⟨rfl, rfl, rfl, fun h1 h2 => settled_mono l1 l2 h1 h2⟩
  have HB := Lib.hid both; clear both
  go_enter Try.func9, Try.ntmps9
  go_wp2_with fail
  rw [← HW.out]
  refine (evalStep_any i GA gn gc RA rn rc OA on oc N RB pn pc IA jn jc regs ins W HN.out HR.out HI.out hpm hjm).mono ?_; rintro e w1 ⟨x, rfl, hown, x1⟩
  generalize hP : stepV N regs ins = P at *
  obtain ⟨A1', c1, rfl, n1, m1, hs1⟩ := own_sl hown
  obtain ⟨q0, q1, q2, q3⟩ := HBox.out.keep x1.keeps
  have S1 := Lib.hid hs1; have X1 := Lib.hid x1; have N1 := Lib.hid (Nat.le_trans n1 m1); clear hs1 x1 hown n1 m1 hP
  go_wp2_with fail
  refine (evalStep_any i GA gn gc RA rn rc OA on oc N RM un uc IM tn tc more there w1 (HN.out.keep X1.out.keeps) (HMO.out.keep X1.out.keeps) (HTH.out.keep X1.out.keeps) hum htm).mono ?_; rintro e w2 ⟨x, rfl, hown, x2⟩
  generalize hQ : stepV N more there = Q at *
  obtain ⟨A2, c2, rfl, n2, m2, hs2⟩ := own_sl hown
  have S1' := Lib.hid (S1.out.keep x2.keeps); have S2 := Lib.hid hs2; have X2 := Lib.hid (X1.out.trans x2); have N2 := Lib.hid (Nat.le_trans n2 m2); clear hs2 x2 hown n2 m2 hQ q0 q1 q2 q3 S1 X1
  obtain ⟨P1, p2⟩ := P
  obtain ⟨Q1, r2⟩ := Q
  by_cases hp0 : p2 = 0
  · by_cases hr0 : r2 = 0
    · subst hp0; subst hr0
      obtain ⟨e1, e2, e3, e4⟩ := HB.out 0 0 rfl rfl rfl rfl
      simp only at e3 e4
      generalize ha : leqOfM regs more = a at *
      generalize hb : leqOfM ins there = b at *
      generalize hc : leqOfM P1 Q1 = c at *
      obtain ⟨a, a'⟩ := a; obtain ⟨b, b'⟩ := b; obtain ⟨c, c'⟩ := c
      simp only at e1 e2 e3 e4
      subst e1; subst e2; subst e3
      have HA := Lib.hid ha; have HBB := Lib.hid hb; have HC := Lib.hid hc; have HE := Lib.hid e4
      clear ha hb hc e4 HB
      go_wp2_with fail
      refine (ternLeq_any RB RM pn un pc uc regs more w2 (HR.out.keep X2.out.keeps) (HMO.out.keep X2.out.keeps) hpm hum).mono ?_; rintro e w3 ⟨rfl, x3⟩
      rw [HA.out]
      have X3 := Lib.hid (X2.out.trans x3); have T1 := Lib.hid (S1'.out.keep x3.keeps); have T2 := Lib.hid (S2.out.keep x3.keeps); clear x3
      go_wp2_with fail
      refine (ternLeq_any IA IM jn tn jc tc ins there w3 (HI.out.keep X3.out.keeps) (HTH.out.keep X3.out.keeps) hjm htm).mono ?_; rintro e w4 ⟨rfl, x4⟩
      rw [HBB.out]
      have X4 := Lib.hid (X3.out.trans x4); have U1 := Lib.hid (T1.out.keep x4.keeps); have U2 := Lib.hid (T2.out.keep x4.keeps); clear x4
      go_wp2_with fail
      refine (ternLeq_any A1' A2 _ _ c1 c2 P1 Q1 w4 U1.out U2.out N1.out N2.out).mono ?_; rintro e w5 ⟨rfl, x5⟩
      rw [HC.out]
      have X5 := Lib.hid (X4.out.trans x5); clear x5
      go_wp2_with fail
      refine (evalBegun_any w5).mono ?_; rintro e w6 ⟨rfl, x6⟩
      have hfin : (!a || (!b || c)) = true := by
        have := HE.out
        cases a <;> cases b <;> simp_all
      cases a
      · go_wp2
        go_ret
        exact ⟨rfl, HX.out.trans (X5.out.trans x6)⟩
      · cases b
        · go_wp2
          go_ret
          exact ⟨rfl, HX.out.trans (X5.out.trans x6)⟩
        · have hc : c = true := by simpa using hfin
          subst hc
          go_wp2
          go_ret
          exact ⟨rfl, HX.out.trans (X5.out.trans x6)⟩
    · have hg : (r2 != 0) = true := by simpa using hr0
      subst hp0
      clear hr0 HB
      go_wp2_with fail
      refine (evalBegun_any w2).mono ?_; rintro e w6 ⟨rfl, x6⟩
      go_wp2
      go_ret
      exact ⟨rfl, HX.out.trans (X2.out.trans x6)⟩
  · have hg : (p2 != 0) = true := by simpa using hp0
    clear hp0 HB
    go_wp2_with fail
    refine (evalBegun_any w2).mono ?_; rintro e w6 ⟨rfl, x6⟩
    go_wp2
    go_ret
    exact ⟨rfl, HX.out.trans (X2.out.trans x6)⟩
end
end Go.Proofs.Ytjagbnaacfhokaa
