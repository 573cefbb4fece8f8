/- Asked and Step; the reference's StepError. -/
import Derived.Test.YtjagbnaacfhokaaEvalSettle
import Derived.Test.YtjagbnaacfhokaaNetRef
namespace Go.Proofs.Ytjagbnaacfhokaa
set_option linter.unusedVariables false
set_option linter.unusedSimpArgs false
open Go.RowKit

section
variable (i : Int) (GA : Option Addr) (gn gc : Nat) (RA : Option Addr) (rn rc : Nat) (OA : Option Addr) (on oc : Nat) (N : NetM) (RB : Option Addr) (pn pc : Nat) (IA : Option Addr) (jn jc : Nat) (regs ins : List Int) (w : World)

set_option maxHeartbeats 2000000 in
theorem asked_any (h : NetC w i GA gn gc RA rn rc OA on oc N) (hr : Sl w RB pn (regs.map I)) (hi : Sl w IA jn (ins.map I)) (hpm : pn ≤ maxLen) (hjm : jn ≤ maxLen) :
    Calls Try.prog 75 #[netV i GA gn gc RA rn rc OA on oc, .slice RB pn pc, .slice IA jn jc] w fun e w' => e = .returned (I (askedM N regs ins)) ∧ Ext w w' := by
  have hrl : N.regs.length = rn := h.regs.1
  have hrm : rn ≤ maxLen := Nat.le_trans h.rl.1 h.rl.2
  have hpl := hr.len; have hjl := hi.len; have hin := h.ins
  generalize hM : askedM N regs ins = M
  unfold askedM at hM
  rw [hrl, hpl, hjl, ← hin] at hM
  obtain ⟨W, hW⟩ : ∃ W, W = w.alloc (.cells #[I i, .slice GA gn gc, .slice RA rn rc, .slice OA on oc] 26) := ⟨_, rfl⟩
  have hxW : Ext w W := by rw [hW]; exact (Ext.refl _).alloc _
  have hbox : NetBox W w.heap.size i GA gn gc RA rn rc OA on oc := by rw [hW]; exact NetBox.new w i GA gn gc RA rn rc OA on oc _
  have HN := Lib.hid (h.keep hxW.keeps); have HBox := Lib.hid hbox; have HW := Lib.hid hW; have HX := Lib.hid hxW
  have HR := Lib.hid (hr.keep hxW.keeps); have HI := Lib.hid (hi.keep hxW.keeps)
  have HPM := Lib.hid hpm; have HJM := Lib.hid hjm
  unfold maxLen at hrm hpm hjm
  clear h hr hi hW hxW hbox hrl hpl hjl hin
  by_cases hc : checkN N = 0
  · rw [if_neg (by simp [hc])] at hM
    have HC := Lib.hid hc; clear hc
    by_cases h1 : pn = rn
    · subst h1
      by_cases h2 : (jn : Int) = i
      · subst h2
        rw [if_neg (by simp)] at hM
        cases hb : regs.any bad3
        · rw [hb] at hM
          have HCR : Hid (checkM regs = 0) := by unfold Hid; simp only [checkM, hb]; rfl
          have HM : Hid (checkM ins = M) := by unfold Hid; rw [← hM]; simp [checkM]
          clear hM hb
          go_enter Try.func75, Try.ntmps75
          go_wp2_with fail
          rw [← HW.out]
          refine (netCheck_any _ GA gn gc RA pn rc OA on oc N W HN.out).mono ?_; rintro e w1 ⟨rfl, x1⟩; rw [HC.out]
          obtain ⟨q0, q1, q2, q3⟩ := HBox.out.keep x1.keeps
          have X1 := Lib.hid x1; clear x1
          go_wp2_with fail
          refine (ternCheck_any RB pn pc regs w1 (HR.out.keep X1.out.keeps) HPM.out).mono ?_; rintro e w2 ⟨rfl, rfl⟩; rw [HCR.out]
          go_wp2_with fail
          refine (ternCheck_any IA jn jc ins w1 (HI.out.keep X1.out.keeps) HJM.out).mono ?_; rintro e w2 ⟨rfl, rfl⟩; rw [HM.out]
          go_wp2
          go_ret
          exact ⟨rfl, HX.out.trans X1.out⟩
        · rw [hb] at hM
          have HCR : Hid (checkM regs = 3) := by unfold Hid; simp only [checkM, hb]; rfl
          have HM : Hid (3 = M) := by unfold Hid; rw [← hM]; rfl
          clear hM hb
          go_enter Try.func75, Try.ntmps75
          go_wp2_with fail
          rw [← HW.out]
          refine (netCheck_any _ GA gn gc RA pn rc OA on oc N W HN.out).mono ?_; rintro e w1 ⟨rfl, x1⟩; rw [HC.out]
          obtain ⟨q0, q1, q2, q3⟩ := HBox.out.keep x1.keeps
          have X1 := Lib.hid x1; clear x1
          go_wp2_with fail
          refine (ternCheck_any RB pn pc regs w1 (HR.out.keep X1.out.keeps) HPM.out).mono ?_; rintro e w2 ⟨rfl, rfl⟩; rw [HCR.out]
          go_wp2
          go_ret
          exact ⟨ret_int HM.out, HX.out.trans X1.out⟩
      · rw [if_pos (.inr h2)] at hM
        have HM := Lib.hid hM; clear hM
        have hb : (((jn : Nat) : Int) != i) = true := by simpa using h2
        go_enter Try.func75, Try.ntmps75
        go_wp2_with fail
        rw [← HW.out]
        refine (netCheck_any _ GA gn gc RA pn rc OA on oc N W HN.out).mono ?_; rintro e w1 ⟨rfl, x1⟩; rw [HC.out]
        obtain ⟨q0, q1, q2, q3⟩ := HBox.out.keep x1.keeps
        go_wp2
        go_ret
        exact ⟨ret_int HM.out, HX.out.trans x1⟩
    · rw [if_pos (.inl h1)] at hM
      have HM := Lib.hid hM; clear hM
      have hb : ((pn : Int) != (rn : Int)) = true := by simp; omega
      go_enter Try.func75, Try.ntmps75
      go_wp2_with fail
      rw [← HW.out]
      refine (netCheck_any _ GA gn gc RA rn rc OA on oc N W HN.out).mono ?_; rintro e w1 ⟨rfl, x1⟩; rw [HC.out]
      obtain ⟨q0, q1, q2, q3⟩ := HBox.out.keep x1.keeps
      go_wp2
      go_ret
      exact ⟨ret_int HM.out, HX.out.trans x1⟩
  · have g : (checkN N != 0) = true := by simpa using hc
    rw [if_pos hc] at hM
    have HM := Lib.hid hM; clear hM hc
    go_enter Try.func75, Try.ntmps75
    go_wp2_with fail
    rw [← HW.out]
    refine (netCheck_any _ GA gn gc RA rn rc OA on oc N W HN.out).mono ?_; rintro e w1 ⟨rfl, x1⟩
    go_wp2
    go_ret
    exact ⟨ret_int HM.out, HX.out.trans x1⟩

set_option maxHeartbeats 2000000 in
theorem evalStep_any (h : NetC w i GA gn gc RA rn rc OA on oc N) (hr : Sl w RB pn (regs.map I)) (hi : Sl w IA jn (ins.map I)) (hpm : pn ≤ maxLen) (hjm : jn ≤ maxLen) :
    Calls Try.prog 30 #[netV i GA gn gc RA rn rc OA on oc, .slice RB pn pc, .slice IA jn jc] w fun e w' => ∃ v, e = .returned (Pr v (I (stepV N regs ins).2)) ∧ w'.ownsRow w.heap.size 3 1 v (stepV N regs ins).1.length ((stepV N regs ins).1.map I) ∧ Ext w w' := by
  generalize hM : stepV N regs ins = M
  unfold stepV at hM
  obtain ⟨W, hW⟩ : ∃ W, W = w.alloc (.cells #[I i, .slice GA gn gc, .slice RA rn rc, .slice OA on oc] 26) := ⟨_, rfl⟩
  have hxW : Ext w W := by rw [hW]; exact (Ext.refl _).alloc _
  have hbox : NetBox W w.heap.size i GA gn gc RA rn rc OA on oc := by rw [hW]; exact NetBox.new w i GA gn gc RA rn rc OA on oc _
  have hgl : N.gates.length = gn := h.gates.1
  have HN := Lib.hid (h.keep hxW.keeps); have HBox := Lib.hid hbox; have HW := Lib.hid hW; have HX := Lib.hid hxW
  have HR := Lib.hid (hr.keep hxW.keeps); have HI := Lib.hid (hi.keep hxW.keeps)
  clear h hr hi hW hxW hbox
  by_cases h0 : askedM N regs ins = 0
  · rw [if_neg (by simp [h0])] at hM
    have HAK := Lib.hid (askedM_ok h0)
    have H0 := Lib.hid h0; clear h0
    subst hM
    have hsl : (settledM N.gates regs ins).length = gn := by rw [settled_len, hgl]
    have HSL := Lib.hid hsl; clear hsl
    go_enter Try.func30, Try.ntmps30
    go_wp2_with fail
    rw [← HW.out]
    refine (asked_any i GA gn gc RA rn rc OA on oc N RB pn pc IA jn jc regs ins W HN.out HR.out HI.out hpm hjm).mono ?_; rintro e w1 ⟨rfl, x1⟩; rw [H0.out]
    obtain ⟨q0, q1, q2, q3⟩ := HBox.out.keep x1.keeps
    have X1 := Lib.hid x1; clear x1
    go_wp2_with fail
    refine (settle_any i GA gn gc RA rn rc OA on oc N RB pn pc IA jn jc regs ins w1 (HN.out.keep X1.out.keeps) (HR.out.keep X1.out.keeps) (HI.out.keep X1.out.keeps) HAK.out).mono ?_; rintro e w2 ⟨v, rfl, hown, x2⟩
    have HO := Lib.hid hown; clear hown q0 q1 q2 q3
    go_wp2
    go_ret2
    exact ⟨_, rfl, by rw [HSL.out]; exact own_base HO.out (HX.out.trans X1.out).size, (HX.out.trans X1.out).trans x2⟩
  · rw [if_pos h0] at hM
    have g : (askedM N regs ins != 0) = true := by simpa using h0
    have HM := Lib.hid hM; clear hM h0
    go_enter Try.func30, Try.ntmps30
    go_wp2_with fail
    rw [← HW.out]
    refine (asked_any i GA gn gc RA rn rc OA on oc N RB pn pc IA jn jc regs ins W HN.out HR.out HI.out hpm hjm).mono ?_; rintro e w1 ⟨rfl, x1⟩
    go_wp2
    go_ret2
    exact ⟨.slice none 0 0, by rw [← HM.out]; rfl, by rw [← HM.out]; exact World.ownsRow_nil _ _ _ _, HX.out.trans x1⟩

/-- StepError: the same. -/
theorem stepError_eq : (if checkN N ≠ 0 then checkN N else if regs.length ≠ N.regs.length ∨ (ins.length : Int) ≠ N.ins then 1 else if !valuesM regs || !valuesM ins then 3 else 0) = askedM N regs ins := by
  unfold askedM
  rw [valuesM_eq, valuesM_eq]
  cases regs.any bad3 <;> cases ins.any bad3 <;> simp
set_option maxHeartbeats 2000000 in
theorem stepError_any (h : NetC w i GA gn gc RA rn rc OA on oc N) (hr : Sl w RB pn (regs.map I)) (hi : Sl w IA jn (ins.map I)) (hpm : pn ≤ maxLen) (hjm : jn ≤ maxLen) (hlo : -9223372036854775808 ≤ i) :
    Calls Try.prog 68 #[netV i GA gn gc RA rn rc OA on oc, .slice RB pn pc, .slice IA jn jc] w fun e w' => e = .returned (I (askedM N regs ins)) ∧ Ext w w' := by
  have hrl : N.regs.length = rn := h.regs.1
  have hrm : rn ≤ maxLen := Nat.le_trans h.rl.1 h.rl.2
  have hpl := hr.len; have hjl := hi.len; have hin := h.ins
  generalize hM : askedM N regs ins = M
  rw [← stepError_eq] at hM
  rw [hrl, hpl, hjl, ← hin] at hM
  obtain ⟨W, hW⟩ : ∃ W, W = w.alloc (.cells #[I i, .slice GA gn gc, .slice RA rn rc, .slice OA on oc] 26) := ⟨_, rfl⟩
  have hxW : Ext w W := by rw [hW]; exact (Ext.refl _).alloc _
  have hbox : NetBox W w.heap.size i GA gn gc RA rn rc OA on oc := by rw [hW]; exact NetBox.new w i GA gn gc RA rn rc OA on oc _
  have HN := Lib.hid (h.keep hxW.keeps); have HBox := Lib.hid hbox; have HW := Lib.hid hW; have HX := Lib.hid hxW
  have HR := Lib.hid (hr.keep hxW.keeps); have HI := Lib.hid (hi.keep hxW.keeps)
  have HPM := Lib.hid hpm; have HJM := Lib.hid hjm; have HLO := Lib.hid hlo
  unfold maxLen at hrm hpm hjm
  clear h hr hi hW hxW hbox hrl hpl hjl hin hlo
  by_cases hc : checkN N = 0
  · rw [if_neg (by simp [hc])] at hM
    have HC := Lib.hid hc; clear hc
    by_cases h1 : pn = rn
    · subst h1
      by_cases h2 : (jn : Int) = i
      · subst h2
        rw [if_neg (by simp)] at hM
        generalize hb : valuesM regs = b at hM
        generalize hd : valuesM ins = d at hM
        have HB := Lib.hid hb; have HD := Lib.hid hd; have HM := Lib.hid hM
        clear hb hd hM
        cases b
        · go_enter Try.func68, Try.ntmps68
          go_wp2_with fail
          rw [← HW.out]
          refine (rnet_any _ GA gn gc RA pn rc OA on oc N W HN.out HLO.out).mono ?_; rintro e w1 ⟨rfl, x1⟩; rw [HC.out]
          obtain ⟨q0, q1, q2, q3⟩ := HBox.out.keep x1.keeps
          have X1 := Lib.hid x1; clear x1
          go_wp2_with fail
          refine (values_any RB pn pc regs w1 (HR.out.keep X1.out.keeps) HPM.out).mono ?_; rintro e w2 ⟨rfl, rfl⟩; rw [HB.out]
          go_wp2
          go_ret
          exact ⟨ret_int (by rw [← HM.out]; rfl), HX.out.trans X1.out⟩
        · cases d
          all_goals
            go_enter Try.func68, Try.ntmps68
            go_wp2_with fail
            rw [← HW.out]
            refine (rnet_any _ GA gn gc RA pn rc OA on oc N W HN.out HLO.out).mono ?_; rintro e w1 ⟨rfl, x1⟩; rw [HC.out]
            obtain ⟨q0, q1, q2, q3⟩ := HBox.out.keep x1.keeps
            have X1 := Lib.hid x1; clear x1
            go_wp2_with fail
            refine (values_any RB pn pc regs w1 (HR.out.keep X1.out.keeps) HPM.out).mono ?_; rintro e w2 ⟨rfl, rfl⟩; rw [HB.out]
            go_wp2_with fail
            refine (values_any IA jn jc ins w1 (HI.out.keep X1.out.keeps) HJM.out).mono ?_; rintro e w2 ⟨rfl, rfl⟩; rw [HD.out]
            go_wp2
            go_ret
            exact ⟨ret_int (by rw [← HM.out]; rfl), HX.out.trans X1.out⟩
      · rw [if_pos (.inr h2)] at hM
        have HM := Lib.hid hM; clear hM
        have hb : (((jn : Nat) : Int) != i) = true := by simpa using h2
        go_enter Try.func68, Try.ntmps68
        go_wp2_with fail
        rw [← HW.out]
        refine (rnet_any _ GA gn gc RA pn rc OA on oc N W HN.out HLO.out).mono ?_; rintro e w1 ⟨rfl, x1⟩; rw [HC.out]
        obtain ⟨q0, q1, q2, q3⟩ := HBox.out.keep x1.keeps
        go_wp2
        go_ret
        exact ⟨ret_int HM.out, HX.out.trans x1⟩
    · rw [if_pos (.inl h1)] at hM
      have HM := Lib.hid hM; clear hM
      have hb : ((pn : Int) != (rn : Int)) = true := by simp; omega
      go_enter Try.func68, Try.ntmps68
      go_wp2_with fail
      rw [← HW.out]
      refine (rnet_any _ GA gn gc RA rn rc OA on oc N W HN.out HLO.out).mono ?_; rintro e w1 ⟨rfl, x1⟩; rw [HC.out]
      obtain ⟨q0, q1, q2, q3⟩ := HBox.out.keep x1.keeps
      go_wp2
      go_ret
      exact ⟨ret_int HM.out, HX.out.trans x1⟩
  · have g : (checkN N != 0) = true := by simpa using hc
    rw [if_pos hc] at hM
    have HM := Lib.hid hM; clear hM hc
    go_enter Try.func68, Try.ntmps68
    go_wp2_with fail
    rw [← HW.out]
    refine (rnet_any _ GA gn gc RA rn rc OA on oc N W HN.out HLO.out).mono ?_; rintro e w1 ⟨rfl, x1⟩
    go_wp2
    go_ret
    exact ⟨ret_int HM.out, HX.out.trans x1⟩
end
end Go.Proofs.Ytjagbnaacfhokaa
