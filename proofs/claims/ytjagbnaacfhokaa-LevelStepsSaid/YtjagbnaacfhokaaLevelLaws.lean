/- The bodies of LevelOrders and LevelSteps, from the contracts. -/
import Derived.Test.YtjagbnaacfhokaaLevelBegun
namespace Go.Proofs.Ytjagbnaacfhokaa
set_option linter.unusedVariables false
set_option linter.unusedSimpArgs false
open Go.RowKit

theorem levelV_step {N : NetM} {regs ins : List Int} (h : (levelV N regs ins).2 = 0) : levelV N regs ins = stepV N regs ins := by
  unfold levelV at h ⊢
  unfold stepV
  by_cases h0 : askedM N regs ins = 0
  · rw [if_neg (by simp [h0])] at h ⊢
    rw [if_neg (by simp [h0])]
    cases hO : orderM N.gates with
    | none => rw [hO] at h; cases h
    | some l => rfl
  · rw [if_pos h0] at h; exact absurd h h0
theorem orderV_len (N : NetM) (h : N.gates.length ≤ 1000000 ∨ (orderV N).2 = 0 ∨ True) : (orderV N).1.length ≤ N.gates.length := by
  unfold orderV
  split
  · simp
  · split
    · rename_i l hl; exact Nat.le_of_eq (orderM_ord hl).1
    · simp
section
variable (i : Int) (GA : Option Addr) (gn gc : Nat) (RA : Option Addr) (rn rc : Nat) (OA : Option Addr) (on oc : Nat) (N : NetM) (RB : Option Addr) (pn pc : Nat) (IA : Option Addr) (jn jc : Nat) (regs ins : List Int) (w : World)

set_option maxHeartbeats 2000000 in
theorem levelOrders_walk (h : NetC w i GA gn gc RA rn rc OA on oc N) (hlo : -9223372036854775808 ≤ i) :
    Calls Try.prog 6 #[netV i GA gn gc RA rn rc OA on oc] w fun e w' => e = .returned (.bool true) ∧ Ext w w' := by
  obtain ⟨W, hW⟩ : ∃ W, W = w.alloc (.cells #[I i, .slice GA gn gc, .slice RA rn rc, .slice OA on oc] 26) := ⟨_, rfl⟩
  have hxW : Ext w W := by rw [hW]; exact (Ext.refl _).alloc _
  have hbox : NetBox W w.heap.size i GA gn gc RA rn rc OA on oc := by rw [hW]; exact NetBox.new w i GA gn gc RA rn rc OA on oc _
  have HN := Lib.hid (h.keep hxW.keeps); have HBox := Lib.hid hbox; have HW := Lib.hid hW; have HX := Lib.hid hxW
  clear h hW hxW hbox
  go_enter Try.func6, Try.ntmps6
  go_wp2_with fail
  rw [← HW.out]
  refine (order_any i GA gn gc RA rn rc OA on oc N W HN.out).mono ?_; rintro e w1 ⟨v, rfl, hown, x1⟩
  obtain ⟨A, c, rfl, h1, h2, hs⟩ := own_sl hown
  obtain ⟨q0, q1, q2, q3⟩ := HBox.out.keep x1.keeps
  generalize hM : orderV N = M at *
  have HM := Lib.hid hM
  have X1 := Lib.hid x1; have S1 := Lib.hid hs; have H2 := Lib.hid (Nat.le_trans h1 h2); clear x1 hs hown hM h1 h2
  go_wp2_with fail
  refine (orderOf_any i GA gn gc RA rn rc OA on oc N w1 (HN.out.keep X1.out.keeps) hlo).mono ?_; rintro e w2 ⟨v, rfl, hown, x2⟩
  rw [HM.out] at hown ⊢
  obtain ⟨B, d, rfl, h1, h2, hs⟩ := own_sl hown
  have X2 := Lib.hid (X1.out.trans x2); have S2 := Lib.hid hs; have S1' := Lib.hid (S1.out.keep x2.keeps); clear x2 hs hown h1 h2 S1 q0 q1 q2 q3
  go_wp2_with fail
  refine (levelBegun_any w2).mono ?_; rintro e w3 ⟨rfl, x3⟩
  have X3 := Lib.hid (X2.out.trans x3); have S3 := Lib.hid (S2.out.keep x3.keeps); have S1 := Lib.hid (S1'.out.keep x3.keeps); clear x3 S2 S1'
  go_wp2_with fail
  refine (sameInts_any A B M.1.length M.1.length c d M.1 M.1 w3 S1.out S3.out H2.out H2.out).mono ?_; rintro e w4 ⟨rfl, m, rfl⟩
  rw [decide_eq_true (rfl : M.1 = M.1)]
  go_wp2
  go_ret
  exact ⟨by simp, (HX.out.trans X3.out).drewN _⟩
set_option maxHeartbeats 4000000 in
theorem levelSteps_walk (h : NetC w i GA gn gc RA rn rc OA on oc N) (hr : Sl w RB pn (regs.map I)) (hi : Sl w IA jn (ins.map I)) (hpm : pn ≤ maxLen) (hjm : jn ≤ maxLen) (hlo : -9223372036854775808 ≤ i) :
    Calls Try.prog 12 #[netV i GA gn gc RA rn rc OA on oc, .slice RB pn pc, .slice IA jn jc] w fun e w' => e = .returned (.bool true) ∧ Ext w w' := by
  obtain ⟨W, hW⟩ : ∃ W, W = w.alloc (.cells #[I i, .slice GA gn gc, .slice RA rn rc, .slice OA on oc] 26) := ⟨_, rfl⟩
  have hxW : Ext w W := by rw [hW]; exact (Ext.refl _).alloc _
  have hbox : NetBox W w.heap.size i GA gn gc RA rn rc OA on oc := by rw [hW]; exact NetBox.new w i GA gn gc RA rn rc OA on oc _
  have HN := Lib.hid (h.keep hxW.keeps); have HBox := Lib.hid hbox; have HW := Lib.hid hW; have HX := Lib.hid hxW
  have HR := Lib.hid (hr.keep hxW.keeps); have HI := Lib.hid (hi.keep hxW.keeps)
  clear h hW hxW hbox hr hi
  go_enter Try.func12, Try.ntmps12
  go_wp2_with fail
  rw [← HW.out]
  refine (levelStep_any i GA gn gc RA rn rc OA on oc N RB pn pc IA jn jc regs ins W HN.out HR.out HI.out hpm hjm).mono ?_; rintro e w1 ⟨v, rfl, hown, x1⟩
  obtain ⟨A, c, rfl, h1, h2, hs⟩ := own_sl hown
  obtain ⟨q0, q1, q2, q3⟩ := HBox.out.keep x1.keeps
  have hls := @levelV_step N regs ins
  generalize hM : levelV N regs ins = M at *
  have HM := Lib.hid hM; have HLS := Lib.hid hls
  have X1 := Lib.hid x1; have S1 := Lib.hid hs; have H2 := Lib.hid (Nat.le_trans h1 h2); clear x1 hs hown hM h1 h2 hls
  go_wp2_with fail
  refine (rlevelStep_any i GA gn gc RA rn rc OA on oc N RB pn pc IA jn jc regs ins w1 (HN.out.keep X1.out.keeps) (HR.out.keep X1.out.keeps) (HI.out.keep X1.out.keeps) hpm hjm hlo).mono ?_; rintro e w2 ⟨v, rfl, hown, x2⟩
  rw [HM.out] at hown ⊢
  obtain ⟨B, d, rfl, h1, h2, hs⟩ := own_sl hown
  have X2 := Lib.hid (X1.out.trans x2); have S2 := Lib.hid hs; have S1' := Lib.hid (S1.out.keep x2.keeps); clear x2 hs hown h1 h2 S1 q0 q1 q2 q3
  obtain ⟨q0, q1, q2, q3⟩ := HBox.out.keep X2.out.keeps
  go_wp2_with fail
  refine (evalStep_any i GA gn gc RA rn rc OA on oc N RB pn pc IA jn jc regs ins w2 (HN.out.keep X2.out.keeps) (HR.out.keep X2.out.keeps) (HI.out.keep X2.out.keeps) hpm hjm).mono ?_; rintro e w3 ⟨v, rfl, hown, x3⟩
  obtain ⟨D, f, rfl, h1, h2, hs⟩ := own_sl hown
  generalize hT : stepV N regs ins = T at *
  have HT := Lib.hid hT
  have X3 := Lib.hid (X2.out.trans x3); have S3 := Lib.hid (S2.out.keep x3.keeps); have S1 := Lib.hid (S1'.out.keep x3.keeps); have V3 := Lib.hid hs; clear x3 hs hown h1 S2 S1' q0 q1 q2 q3 hT
  go_wp2_with fail
  refine (levelBegun_any w3).mono ?_; rintro e w4 ⟨rfl, x4⟩
  have X4 := Lib.hid (X3.out.trans x4); have S4 := Lib.hid (S3.out.keep x4.keeps); have S1' := Lib.hid (S1.out.keep x4.keeps); have V4 := Lib.hid (V3.out.keep x4.keeps); clear x4 S3 S1 V3
  go_wp2_with fail
  refine (sameInts_any A B M.1.length M.1.length c d M.1 M.1 w4 S1'.out S4.out H2.out H2.out).mono ?_; rintro e w5 ⟨rfl, m, rfl⟩
  rw [decide_eq_true (rfl : M.1 = M.1)]
  have X5 := Lib.hid (X4.out.drewN m); have S5 := Lib.hid (S1'.out.keep ((Ext.refl w4).drewN m).keeps); have V5 := Lib.hid (V4.out.keep ((Ext.refl w4).drewN m).keeps); clear S4 S1' V4
  generalize w4.drewN m = w5 at *
  by_cases he : M.2 = 0
  · have hTM : T = M := ((HLS.out) he).symm
    subst hTM
    have HE := Lib.hid he
    rw [he]
    go_wp2_with fail
    refine (sameInts_any A D T.1.length T.1.length c f T.1 T.1 w5 S5.out V5.out H2.out H2.out).mono ?_; rintro e w6 ⟨rfl, m, rfl⟩
    rw [decide_eq_true (rfl : T.1 = T.1)]
    go_wp2
    go_ret
    exact ⟨by simp, (HX.out.trans X5.out).drewN _⟩
  · have hb : (M.2 != 0) = true := by simpa using he
    go_wp2
    go_ret
    exact ⟨by simp, HX.out.trans X5.out⟩
end
end Go.Proofs.Ytjagbnaacfhokaa
