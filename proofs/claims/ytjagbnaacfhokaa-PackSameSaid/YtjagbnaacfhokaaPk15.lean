/- Order and Step of level, by the program and by the reference. -/
import Derived.Test.YtjagbnaacfhokaaPk13
import Derived.Test.YtjagbnaacfhokaaPk14
import Derived.Test.YtjagbnaacfhokaaPk09
import Derived.Test.YtjagbnaacfhokaaPk02
import Derived.Test.YtjagbnaacfhokaaPk03
import Derived.Laws.Bits64b
import Derived.WalkSmall
namespace Go.Proofs.Ytjagbnaacfhokaa
set_option linter.unusedVariables false
set_option linter.unusedSimpArgs false
open Go.RowKit

theorem ord_range {gs : List GateM} : ∀ {l : List Int} {o : List Bool}, OrdM gs o l → ∀ x ∈ l, 0 ≤ x ∧ ∃ g, gs[x.toNat]? = some g
  | [], _, _, x, hx => by simp at hx
  | k :: l, o, ⟨h0, ⟨g, hg, _⟩, h3⟩, x, hx => by
    rcases List.mem_cons.1 hx with rfl | hx
    · exact ⟨h0, g, hg⟩
    · exact ord_range h3 x hx
def orderV (N : NetM) : List Int × Int := if checkN N ≠ 0 then ([], checkN N) else match orderM N.gates with | some l => (l, 0) | none => ([], 5)
def levelV (N : NetM) (regs ins : List Int) : List Int × Int := if askedM N regs ins ≠ 0 then ([], askedM N regs ins) else match orderM N.gates with | some _ => (settledM N.gates regs ins, 0) | none => ([], 5)
section
variable (i : Int) (GA : Option Addr) (gn gc : Nat) (RA : Option Addr) (rn rc : Nat) (OA : Option Addr) (on oc : Nat) (N : NetM) (RB : Option Addr) (pn pc : Nat) (IA : Option Addr) (jn jc : Nat) (regs ins : List Int) (w : World)
set_option maxHeartbeats 2000000 in
theorem order_any (h : NetC w i GA gn gc RA rn rc OA on oc N) :
    Calls Try.prog 36 #[netV i GA gn gc RA rn rc OA on oc] w fun e w' => ∃ v, e = .returned (Pr v (I (orderV N).2)) ∧ w'.ownsRow w.heap.size 3 1 v (orderV N).1.length ((orderV N).1.map I) ∧ Ext w w' := by
  generalize hM : orderV N = M
  unfold orderV at hM
  obtain ⟨W, hW⟩ : ∃ W, W = w.alloc (.cells #[I i, .slice GA gn gc, .slice RA rn rc, .slice OA on oc] 26) := ⟨_, rfl⟩
  have hxW : Ext w W := by rw [hW]; exact (Ext.refl _).alloc _
  have hbox : NetBox W w.heap.size i GA gn gc RA rn rc OA on oc := by rw [hW]; exact NetBox.new w i GA gn gc RA rn rc OA on oc _
  have HN := Lib.hid (h.keep hxW.keeps); have HBox := Lib.hid hbox; have HW := Lib.hid hW; have HX := Lib.hid hxW
  clear h hW hxW hbox
  by_cases h0 : checkN N = 0
  · rw [if_neg (by simp [h0])] at hM
    have HOK := Lib.hid (checkN_ok h0)
    have H0 := Lib.hid h0; clear h0
    cases hO : orderM N.gates with
    | none =>
      rw [hO] at hM
      have HM := Lib.hid hM; have HO := Lib.hid hO
      clear hM hO
      go_enter Try.func36, Try.ntmps36
      go_wp2_with fail
      rw [← HW.out]
      refine (netCheck_any _ GA gn gc RA rn rc OA on oc N W HN.out).mono ?_; rintro e w1 ⟨rfl, x1⟩; rw [H0.out]
      obtain ⟨q0, q1, q2, q3⟩ := HBox.out.keep x1.keeps
      have X1 := Lib.hid x1; clear x1
      go_wp2_with fail
      have hof := levelOf_any i GA gn gc RA rn rc OA on oc N w1 (HN.out.keep X1.out.keeps) HOK.out
      rw [HO.out] at hof
      refine hof.mono ?_; rintro e w2 ⟨rfl, x2⟩
      go_wp2
      go_ret2
      exact ⟨.slice none 0 0, by rw [← HM.out]; rfl, by rw [← HM.out]; exact World.ownsRow_nil _ _ _ _, (HX.out.trans X1.out).trans x2⟩
    | some l =>
      rw [hO] at hM
      have HM := Lib.hid hM; have HO := Lib.hid hO
      clear hM hO
      go_enter Try.func36, Try.ntmps36
      go_wp2_with fail
      rw [← HW.out]
      refine (netCheck_any _ GA gn gc RA rn rc OA on oc N W HN.out).mono ?_; rintro e w1 ⟨rfl, x1⟩; rw [H0.out]
      obtain ⟨q0, q1, q2, q3⟩ := HBox.out.keep x1.keeps
      have X1 := Lib.hid x1; clear x1
      go_wp2_with fail
      have hof := levelOf_any i GA gn gc RA rn rc OA on oc N w1 (HN.out.keep X1.out.keeps) HOK.out
      rw [HO.out] at hof
      refine hof.mono ?_; rintro e w2 ⟨v, rfl, hown, x2⟩
      go_wp2
      go_ret2
      exact ⟨v, by rw [← HM.out]; rfl, by rw [← HM.out]; exact own_base hown (HX.out.trans X1.out).size, (HX.out.trans X1.out).trans x2⟩
  · rw [if_pos h0] at hM
    have g : (checkN N != 0) = true := by simpa using h0
    have HM := Lib.hid hM; clear hM h0
    go_enter Try.func36, Try.ntmps36
    go_wp2_with fail
    rw [← HW.out]
    refine (netCheck_any _ GA gn gc RA rn rc OA on oc N W HN.out).mono ?_; rintro e w1 ⟨rfl, x1⟩
    go_wp2
    go_ret2
    exact ⟨.slice none 0 0, by rw [← HM.out]; rfl, by rw [← HM.out]; exact World.ownsRow_nil _ _ _ _, HX.out.trans x1⟩
set_option maxHeartbeats 2000000 in
theorem orderOf_any (h : NetC w i GA gn gc RA rn rc OA on oc N) (hlo : -9223372036854775808 ≤ i) :
    Calls Try.prog 37 #[netV i GA gn gc RA rn rc OA on oc] w fun e w' => ∃ v, e = .returned (Pr v (I (orderV N).2)) ∧ w'.ownsRow w.heap.size 3 1 v (orderV N).1.length ((orderV N).1.map I) ∧ Ext w w' := by
  generalize hM : orderV N = M
  unfold orderV at hM
  obtain ⟨W, hW⟩ : ∃ W, W = w.alloc (.cells #[I i, .slice GA gn gc, .slice RA rn rc, .slice OA on oc] 26) := ⟨_, rfl⟩
  have hxW : Ext w W := by rw [hW]; exact (Ext.refl _).alloc _
  have hbox : NetBox W w.heap.size i GA gn gc RA rn rc OA on oc := by rw [hW]; exact NetBox.new w i GA gn gc RA rn rc OA on oc _
  have HN := Lib.hid (h.keep hxW.keeps); have HBox := Lib.hid hbox; have HW := Lib.hid hW; have HX := Lib.hid hxW
  clear h hW hxW hbox
  by_cases h0 : checkN N = 0
  · rw [if_neg (by simp [h0])] at hM
    have HOK := Lib.hid (checkN_ok h0)
    have H0 := Lib.hid h0; clear h0
    cases hO : orderM N.gates with
    | none =>
      rw [hO] at hM
      have HM := Lib.hid hM; have HO := Lib.hid hO
      clear hM hO
      go_enter Try.func37, Try.ntmps37
      go_wp2_with fail
      rw [← HW.out]
      refine (rnet_any _ GA gn gc RA rn rc OA on oc N W HN.out hlo).mono ?_; rintro e w1 ⟨rfl, x1⟩; rw [H0.out]
      obtain ⟨q0, q1, q2, q3⟩ := HBox.out.keep x1.keeps
      have X1 := Lib.hid x1; clear x1
      go_wp2_with fail
      have hof := rorder_any i GA gn gc RA rn rc OA on oc N w1 (HN.out.keep X1.out.keeps) HOK.out
      rw [HO.out] at hof
      refine hof.mono ?_; rintro e w2 ⟨rfl, x2⟩
      go_wp2
      go_ret2
      exact ⟨.slice none 0 0, by rw [← HM.out]; rfl, by rw [← HM.out]; exact World.ownsRow_nil _ _ _ _, (HX.out.trans X1.out).trans x2⟩
    | some l =>
      rw [hO] at hM
      have HM := Lib.hid hM; have HO := Lib.hid hO
      clear hM hO
      go_enter Try.func37, Try.ntmps37
      go_wp2_with fail
      rw [← HW.out]
      refine (rnet_any _ GA gn gc RA rn rc OA on oc N W HN.out hlo).mono ?_; rintro e w1 ⟨rfl, x1⟩; rw [H0.out]
      obtain ⟨q0, q1, q2, q3⟩ := HBox.out.keep x1.keeps
      have X1 := Lib.hid x1; clear x1
      go_wp2_with fail
      have hof := rorder_any i GA gn gc RA rn rc OA on oc N w1 (HN.out.keep X1.out.keeps) HOK.out
      rw [HO.out] at hof
      refine hof.mono ?_; rintro e w2 ⟨v, rfl, hown, x2⟩
      go_wp2
      go_ret2
      exact ⟨v, by rw [← HM.out]; rfl, by rw [← HM.out]; exact own_base hown (HX.out.trans X1.out).size, (HX.out.trans X1.out).trans x2⟩
  · rw [if_pos h0] at hM
    have g : (checkN N != 0) = true := by simpa using h0
    have HM := Lib.hid hM; clear hM h0
    go_enter Try.func37, Try.ntmps37
    go_wp2_with fail
    rw [← HW.out]
    refine (rnet_any _ GA gn gc RA rn rc OA on oc N W HN.out hlo).mono ?_; rintro e w1 ⟨rfl, x1⟩
    go_wp2
    go_ret2
    exact ⟨.slice none 0 0, by rw [← HM.out]; rfl, by rw [← HM.out]; exact World.ownsRow_nil _ _ _ _, HX.out.trans x1⟩
set_option maxHeartbeats 2000000 in
theorem rlevelStep_any (h : NetC w i GA gn gc RA rn rc OA on oc N) (hr : Sl w RB pn (regs.map I)) (hi : Sl w IA jn (ins.map I)) (hpm : pn ≤ maxLen) (hjm : jn ≤ maxLen) (hlo : -9223372036854775808 ≤ i) :
    Calls Try.prog 47 #[netV i GA gn gc RA rn rc OA on oc, .slice RB pn pc, .slice IA jn jc] w fun e w' => ∃ v, e = .returned (Pr v (I (levelV N regs ins).2)) ∧ w'.ownsRow w.heap.size 3 1 v (levelV N regs ins).1.length ((levelV N regs ins).1.map I) ∧ Ext w w' := by
  generalize hM : levelV N regs ins = M
  unfold levelV at hM
  obtain ⟨W, hW⟩ : ∃ W, W = w.alloc (.cells #[I i, .slice GA gn gc, .slice RA rn rc, .slice OA on oc] 26) := ⟨_, rfl⟩
  have hxW : Ext w W := by rw [hW]; exact (Ext.refl _).alloc _
  have hbox : NetBox W w.heap.size i GA gn gc RA rn rc OA on oc := by rw [hW]; exact NetBox.new w i GA gn gc RA rn rc OA on oc _
  have hgl : N.gates.length = gn := h.gates.1
  have HN := Lib.hid (h.keep hxW.keeps); have HBox := Lib.hid hbox; have HW := Lib.hid hW; have HX := Lib.hid hxW
  have HR := Lib.hid (hr.keep hxW.keeps); have HI := Lib.hid (hi.keep hxW.keeps)
  clear h hr hi hW hxW hbox
  by_cases h0 : askedM N regs ins = 0
  · rw [if_neg (by simp [h0])] at hM
    have HAK := Lib.hid (askedM_ok h0)
    have hck : checkN N = 0 := by
      unfold askedM at h0
      by_cases hc : checkN N = 0
      · exact hc
      · rw [if_pos hc] at h0; exact h0
    have hoV : orderV N = match orderM N.gates with | some l => (l, 0) | none => ([], 5) := by unfold orderV; rw [if_neg (by simp [hck])]
    have H0 := Lib.hid h0; clear h0 hck
    cases hO : orderM N.gates with
    | none =>
      rw [hO] at hM hoV
      have HM := Lib.hid hM; have HOV := Lib.hid hoV
      clear hM hO hoV
      go_enter Try.func47, Try.ntmps47
      go_wp2_with fail
      rw [← HW.out]
      refine (stepError_any i GA gn gc RA rn rc OA on oc N RB pn pc IA jn jc regs ins W HN.out HR.out HI.out hpm hjm hlo).mono ?_; rintro e w1 ⟨rfl, x1⟩; rw [H0.out]
      obtain ⟨q0, q1, q2, q3⟩ := HBox.out.keep x1.keeps
      have X1 := Lib.hid x1; clear x1
      go_wp2_with fail
      refine (orderOf_any i GA gn gc RA rn rc OA on oc N w1 (HN.out.keep X1.out.keeps) hlo).mono ?_; rintro e w2 ⟨v, rfl, hown, x2⟩
      rw [HOV.out]
      clear hown
      go_wp2
      go_ret2
      exact ⟨.slice none 0 0, by rw [← HM.out]; rfl, by rw [← HM.out]; exact World.ownsRow_nil _ _ _ _, (HX.out.trans X1.out).trans x2⟩
    | some l =>
      rw [hO] at hM hoV
      subst hM
      have hsl : (settledM N.gates regs ins).length = gn := by rw [settled_len, hgl]
      have HSL := Lib.hid hsl; have HOV := Lib.hid hoV
      clear hsl hO hoV
      go_enter Try.func47, Try.ntmps47
      go_wp2_with fail
      rw [← HW.out]
      refine (stepError_any i GA gn gc RA rn rc OA on oc N RB pn pc IA jn jc regs ins W HN.out HR.out HI.out hpm hjm hlo).mono ?_; rintro e w1 ⟨rfl, x1⟩; rw [H0.out]
      obtain ⟨q0, q1, q2, q3⟩ := HBox.out.keep x1.keeps
      have X1 := Lib.hid x1; clear x1
      go_wp2_with fail
      refine (orderOf_any i GA gn gc RA rn rc OA on oc N w1 (HN.out.keep X1.out.keeps) hlo).mono ?_; rintro e w2 ⟨v, rfl, hown, x2⟩
      rw [HOV.out]
      have X2 := Lib.hid (X1.out.trans x2)
      clear hown x2 q0 q1 q2 q3
      obtain ⟨q0, q1, q2, q3⟩ := HBox.out.keep X2.out.keeps
      go_wp2_with fail
      refine (settled_any i GA gn gc RA rn rc OA on oc N RB pn pc IA jn jc regs ins w2 (HN.out.keep X2.out.keeps) (HR.out.keep X2.out.keeps) (HI.out.keep X2.out.keeps) HAK.out).mono ?_; rintro e w3 ⟨v', rfl, hown, x3⟩
      have HO := Lib.hid hown; clear hown q0 q1 q2 q3
      go_wp2
      go_ret2
      exact ⟨_, rfl, by rw [HSL.out]; exact own_base HO.out (HX.out.trans X2.out).size, (HX.out.trans X2.out).trans x3⟩
  · rw [if_pos h0] at hM
    have g : (askedM N regs ins != 0) = true := by simpa using h0
    have HM := Lib.hid hM; clear hM h0
    go_enter Try.func47, Try.ntmps47
    go_wp2_with fail
    rw [← HW.out]
    refine (stepError_any i GA gn gc RA rn rc OA on oc N RB pn pc IA jn jc regs ins W HN.out HR.out HI.out hpm hjm hlo).mono ?_; rintro e w1 ⟨rfl, x1⟩
    go_wp2
    go_ret2
    exact ⟨.slice none 0 0, by rw [← HM.out]; rfl, by rw [← HM.out]; exact World.ownsRow_nil _ _ _ _, HX.out.trans x1⟩

set_option maxRecDepth 100000 in
set_option maxHeartbeats 4000000 in
theorem levelStep_any (h : NetC w i GA gn gc RA rn rc OA on oc N) (hr : Sl w RB pn (regs.map I)) (hi : Sl w IA jn (ins.map I)) (hpm : pn ≤ maxLen) (hjm : jn ≤ maxLen) :
    Calls Try.prog 39 #[netV i GA gn gc RA rn rc OA on oc, .slice RB pn pc, .slice IA jn jc] w fun e w' => ∃ v, e = .returned (Pr v (I (levelV N regs ins).2)) ∧ w'.ownsRow w.heap.size 3 1 v (levelV N regs ins).1.length ((levelV N regs ins).1.map I) ∧ Ext w w' := by
  generalize hM : levelV N regs ins = M
  unfold levelV at hM
  obtain ⟨W, hW⟩ : ∃ W, W = w.alloc (.cells #[I i, .slice GA gn gc, .slice RA rn rc, .slice OA on oc] 26) := ⟨_, rfl⟩
  have hxW : Ext w W := by rw [hW]; exact (Ext.refl _).alloc _
  have hbox : NetBox W w.heap.size i GA gn gc RA rn rc OA on oc := by rw [hW]; exact NetBox.new w i GA gn gc RA rn rc OA on oc _
  have hgl : N.gates.length = gn := h.gates.1
  have HN := Lib.hid (h.keep hxW.keeps); have HBox := Lib.hid hbox; have HW := Lib.hid hW; have HX := Lib.hid hxW
  have HR := Lib.hid (hr.keep hxW.keeps); have HI := Lib.hid (hi.keep hxW.keeps)
  clear h hr hi hW hxW hbox
  by_cases h0 : askedM N regs ins = 0
  · rw [if_neg (by simp [h0])] at hM
    have hak := askedM_ok h0
    have HAK := Lib.hid hak
    have hg200 : gn ≤ 200 := by have := hak.net.gl; omega
    have H0 := Lib.hid h0; clear h0 hak
    cases hO : orderM N.gates with
    | none =>
      rw [hO] at hM
      have HM := Lib.hid hM; have HO := Lib.hid hO
      clear hM hO
      go_enter Try.func39, Try.ntmps39
      go_wp2_with fail
      rw [← HW.out]
      refine (asked_any i GA gn gc RA rn rc OA on oc N RB pn pc IA jn jc regs ins W HN.out HR.out HI.out hpm hjm).mono ?_; rintro e w1 ⟨rfl, x1⟩; rw [H0.out]
      obtain ⟨q0, q1, q2, q3⟩ := HBox.out.keep x1.keeps
      have X1 := Lib.hid x1; clear x1
      go_wp2_with fail
      have hof := levelOf_any i GA gn gc RA rn rc OA on oc N w1 (HN.out.keep X1.out.keeps) HAK.out.net
      rw [HO.out] at hof
      refine hof.mono ?_; rintro e w2 ⟨rfl, x2⟩
      go_wp2
      go_ret2
      exact ⟨.slice none 0 0, by rw [← HM.out]; rfl, by rw [← HM.out]; exact World.ownsRow_nil _ _ _ _, (HX.out.trans X1.out).trans x2⟩
    | some l =>
      rw [hO] at hM
      subst hM
      have hll := (orderM_ord hO).1
      rw [hgl] at hll
      have hset := fun (v : List Int) (hv : v.length = N.gates.length) => along_settled (regs := regs) (ins := ins) HAK.out.net.okArgs hO hv
      have hsl : (settledM N.gates regs ins).length = gn := by rw [settled_len, hgl]
      have HSL := Lib.hid hsl; have HO := Lib.hid hO; have HSET := Lib.hid hset; have HLL := Lib.hid hll
      clear hsl hO hset hll
      go_enter Try.func39, Try.ntmps39
      go_wp2_with fail
      rw [← HW.out]
      refine (asked_any i GA gn gc RA rn rc OA on oc N RB pn pc IA jn jc regs ins W HN.out HR.out HI.out hpm hjm).mono ?_; rintro e wq ⟨rfl, x1⟩; rw [H0.out]
      obtain ⟨q0, q1, q2, q3⟩ := HBox.out.keep x1.keeps
      have X1 := Lib.hid x1; clear x1
      go_wp2_with fail
      have hof := levelOf_any i GA gn gc RA rn rc OA on oc N wq (HN.out.keep X1.out.keeps) HAK.out.net
      rw [HO.out] at hof
      refine hof.mono ?_; rintro e w1 ⟨v, rfl, hown, x2⟩
      obtain ⟨LA, lc, rfl, hlc, hlm, hls⟩ := own_sl hown
      have hx1 := X1.out.trans x2
      clear q0 q1 q2 q3 hown x2
      obtain ⟨wb, hwb⟩ : ∃ wb, wb = w1.alloc (.cells #[.slice RB pn pc, .slice IA jn jc] 87) := ⟨_, rfl⟩
      obtain ⟨p0, p1, xb⟩ := box2 w1 _ _ _ hwb
      have hszb : wb.heap.size = w1.heap.size + 1 := by rw [hwb]; simp
      have XB := Lib.hid (hx1.trans xb); have HWB := Lib.hid hwb; have P0B := Lib.hid p0; have P1B := Lib.hid p1; have HLS := Lib.hid (hls.keep xb.keeps); have HSZB := Lib.hid hszb
      obtain ⟨q0, q1, q2, q3⟩ := HBox.out.keep hx1.keeps
      have hmk := fun Q => run_make1 (P := Try.prog) 24 3 tab_int' Try.underlying24 rfl gn (by omega) (by omega) Q
      have hown0 : (wb.alloc (.cells (zeros (.int .i64 0) gn) 3)).ownsRow wb.heap.size 3 1 (.slice (some ⟨wb.heap.size, 0, none⟩) gn gn) gn ((List.replicate gn 0).map I) := by
        have := own_made wb 3 (.int .i64 0) gn wb.heap.size (Nat.le_refl _) (by unfold maxLen; omega)
        rw [show (List.replicate gn (0 : Int)).map I = List.replicate gn (.int .i64 0) from by simp]
        exact this
      have HO0 := Lib.hid hown0
      unfold maxLen at hlm
      clear hwb p0 p1 xb hls hszb hown0
      go_upto_region 8 with fail
      rw [← HWB.out]
      have q1' := (HBox.out.keep XB.out.keeps).2.1
      clear q0 q1 q2 q3
      go_wp2_with fail
      clear hmk
      go_loopw [38] (fun j wr => ∃ (q : Nat) (vv : List Int), q ≤ l.length ∧ j = .int .i64 q ∧ Ext wb wr ∧ wr.ownsRow wb.heap.size 3 1 (.slice (some ⟨wb.heap.size, 0, none⟩) gn gn) gn (vv.map I) ∧ goodL vv ∧ vv.length = gn ∧ alongM N.gates regs ins (l.drop q) vv = settledM N.gates regs ins) (fun j _ => l.length - (intOf j).toNat)
      case atStart => exact ⟨0, List.replicate gn 0, Nat.zero_le _, rfl, (Ext.refl _).alloc _, HO0.out, fun x hx => by rw [List.eq_of_mem_replicate hx]; exact .inl rfl, by simp, by rw [List.drop_zero]; exact HSET.out _ (by simp [hgl])⟩
      case round =>
        obtain ⟨q, vv, hq, rfl, hext, hv, hgd, hvl, hAL⟩ := hrel
        by_cases hlt : q < l.length
        · obtain ⟨bL, oL, x, rfl, hcL, hdL⟩ := (HLS.out.keep hext.keeps).next hlt
          have hxm : x ∈ l := by
            have : x ∈ l.drop q := by rw [hdL]; simp
            exact List.mem_of_mem_drop this
          obtain ⟨hx0, g, hxg⟩ := ord_range (orderM_ord HO.out).2 x hxm
          obtain ⟨j, rfl⟩ : ∃ j : Nat, x = j := ⟨x.toNat, by omega⟩
          rw [Int.toNat_natCast] at hxg
          have hjl : j < gn := by have := (List.getElem?_eq_some_iff.1 hxg).1; omega
          rw [hdL, alongM, Int.toNat_natCast, hxg, Option.getD_some] at hAL
          obtain ⟨b, offg, A', m, c', gt, rfl, g0, g1, g2, hsg, hmc, hcm2, hd, hgt⟩ := HN.out.gates.next hjl
          obtain rfl : g = gt := by rw [hxg] at hgt; exact Option.some.inj hgt
          have hxw := XB.out.trans hext
          have k0 := hxw.keeps _ _ g0; have k1 := hxw.keeps _ _ g1; have k2 := hxw.keeps _ _ g2
          have p0 := hext.keeps _ _ P0B.out; have p1 := hext.keeps _ _ P1B.out
          have q1 := (HBox.out.keep hxw.keeps).2.1
          have hgr := HAK.out.net.gate (List.mem_of_getElem? hgt)
          rw [hgl] at hgr
          have hil := HAK.out.il; have hrl := HAK.out.rl
          have hjn : jn = N.ins.toNat := by have := HI.out.len; omega
          have hpn : pn = N.regs.length := by have := HR.out.len; omega
          rw [← hjn, ← hpn] at hgr
          generalize hX : worthM regs ins vv g = X at *
          have hXg : X = 0 ∨ X = 1 ∨ X = 2 := by rw [← hX]; exact worth_good HAK.out.rg HAK.out.ig hgd _
          have hof : ∀ Q, Ext wr Q → Calls Try.prog 80 #[handV RB pn pc IA jn jc, gateV g.kind g.num A' m c', .slice (some ⟨wb.heap.size, 0, none⟩) gn gn] Q fun e w' => e = .returned (I X) ∧ Ext Q w' := fun Q hQ => by
            rw [← hX]
            exact handOf_any RB pn pc IA jn jc A' m c' (some ⟨wb.heap.size, 0, none⟩) gn gn regs ins vv g Q ((HR.out.keep hxw.keeps).keep hQ.keeps) ((HI.out.keep hxw.keeps).keep hQ.keeps) ((hsg.keep hxw.keeps).keep hQ.keeps)
              (by obtain ⟨A5, c5, e5, -, -, hsl⟩ := own_sl hv; injection e5 with e5 _ _; rw [e5]; exact hsl.keep hQ.keeps) hgr hgd
          have HOF := Lib.hid hof; have HV := Lib.hid hv; have HE := Lib.hid hext; have HAL := Lib.hid hAL; have HGD := Lib.hid hgd; have HVL := Lib.hid hvl; have HXG := Lib.hid hXg
          have P0 := Lib.hid p0; have P1 := Lib.hid p1; have Q1 := Lib.hid q1; have K0 := Lib.hid k0; have K1 := Lib.hid k1; have K2 := Lib.hid k2
          clear hof hv hext hAL hgd hvl hXg p0 p1 q1 k0 k1 k2 g0 g1 g2 hsg hd hgt hxg hdL hxm hgr hil hrl hjn hpn hX hxw hmc hx0 q1'
          go_upto_region 12 with fail
          refine wp_flow3 10 2 [isV (.slice (some ⟨wb.heap.size, 0, none⟩) gn gn), isV (.int .i64 j), isV (.agg #[.slice RB pn pc, .slice IA jn jc]), isV (.pointer (some ⟨w.heap.size, 1, none⟩)), isV (.slice (some ⟨b, offg, none⟩) gn gc), isV (.int .i64 j), isV (.pointer (some ⟨b, offg + j * 3, none⟩)), isV (.agg #[I g.kind, I g.num, .slice A' m c']), isV (.slice (some ⟨wb.heap.size, 0, none⟩) gn gn), isV (.int .i64 X)] (by kernel_rfl) rfl rfl (by kernel_rfl) (by kernel_rfl) ⟨isV_mono, isV_mono, isV_mono, isV_mono, isV_mono, isV_mono, isV_mono, isV_mono, isV_mono, isV_mono, trivial⟩ ?each ?rest
          case each =>
            refine .cons ?_ (.cons ?_ (.cons ?_ (.cons ?_ (.cons ?_ (.cons ?_ (.cons ?_ (.cons ?_ (.cons ?_ (.cons ?_ (.nil))))))))))
            · intro fa fw hx hs hb
              have s12 : fa.tmps[(12 : Nat)]? = some (.slice (some ⟨wb.heap.size, 0, none⟩) gn gn) := (hb 12 (by kernel_rfl)).trans (by rfl)
              refine .inl ⟨wanted_free rfl, fun K hK => ?_⟩
              clear hs hb hx
              go_simp
              exact hK _ _ rfl (Ext.refl _)
            · intro fa fw hx hs hb
              have s14 : fa.tmps[(14 : Nat)]? = some (.int .i64 j) := (hb 14 (by kernel_rfl)).trans (by rfl)
              refine .inl ⟨wanted_free rfl, fun K hK => ?_⟩
              clear hs hb hx
              go_simp
              exact hK _ _ rfl (Ext.refl _)
            · intro fa fw hx hs hb
              have s11 : fa.tmps[(11 : Nat)]? = some (.pointer (some ⟨w1.heap.size, 0, none⟩)) := (hb 11 (by kernel_rfl)).trans (by rfl)
              have c0 := hx.keeps _ _ P0.out
              have c1 := hx.keeps _ _ P1.out
              refine .inl ⟨wanted_free rfl, fun K hK => ?_⟩
              clear hs hb hx
              go_simp
              exact hK _ _ rfl (Ext.refl _)
            · intro fa fw hx hs hb
              have s3 : fa.tmps[(3 : Nat)]? = some (.pointer (some ⟨w.heap.size, 0, none⟩)) := (hb 3 (by kernel_rfl)).trans (by rfl)
              refine .inl ⟨wanted_free rfl, fun K hK => ?_⟩
              clear hs hb hx
              go_simp
              exact hK _ _ rfl (Ext.refl _)
            · intro fa fw hx hs hb
              obtain ⟨_, s45, rfl⟩ := hs 3 45 (by kernel_rfl) (by kernel_rfl)
              have c0 := hx.keeps _ _ Q1.out
              refine .inl ⟨wanted_free rfl, fun K hK => ?_⟩
              clear hs hb hx
              go_simp
              exact hK _ _ rfl (Ext.refl _)
            · intro fa fw hx hs hb
              have s14 : fa.tmps[(14 : Nat)]? = some (.int .i64 j) := (hb 14 (by kernel_rfl)).trans (by rfl)
              refine .inl ⟨wanted_free rfl, fun K hK => ?_⟩
              clear hs hb hx
              go_simp
              exact hK _ _ rfl (Ext.refl _)
            · intro fa fw hx hs hb
              obtain ⟨_, s46, rfl⟩ := hs 4 46 (by kernel_rfl) (by kernel_rfl)
              obtain ⟨_, s47, rfl⟩ := hs 5 47 (by kernel_rfl) (by kernel_rfl)
              refine .inl ⟨wanted_free rfl, fun K hK => ?_⟩
              clear hs hb hx
              go_simp
              exact hK _ _ rfl (Ext.refl _)
            · intro fa fw hx hs hb
              obtain ⟨_, s48, rfl⟩ := hs 6 48 (by kernel_rfl) (by kernel_rfl)
              have c0 := hx.keeps _ _ K0.out
              have c1 := hx.keeps _ _ K1.out
              have c2 := hx.keeps _ _ K2.out
              refine .inl ⟨wanted_free rfl, fun K hK => ?_⟩
              clear hs hb hx
              go_simp
              exact hK _ _ rfl (Ext.refl _)
            · intro fa fw hx hs hb
              have s12 : fa.tmps[(12 : Nat)]? = some (.slice (some ⟨wb.heap.size, 0, none⟩) gn gn) := (hb 12 (by kernel_rfl)).trans (by rfl)
              refine .inl ⟨wanted_free rfl, fun K hK => ?_⟩
              clear hs hb hx
              go_simp
              exact hK _ _ rfl (Ext.refl _)
            · intro fa fw hx hs hb
              obtain ⟨_, s44, rfl⟩ := hs 2 44 (by kernel_rfl) (by kernel_rfl)
              obtain ⟨_, s49, rfl⟩ := hs 7 49 (by kernel_rfl) (by kernel_rfl)
              obtain ⟨_, s50, rfl⟩ := hs 8 50 (by kernel_rfl) (by kernel_rfl)
              refine .inl ⟨wanted_free rfl, fun K hK => ?_⟩
              clear hs hb
              go_simp
              refine (HOF.out _ hx).mono ?_
              rintro e w' ⟨rfl, xq⟩
              exact hK _ _ rfl xq
          case rest =>
            intro w2 hxw2
            rintro _ rfl
            rintro _ rfl
            rintro _ rfl
            rintro _ rfl
            rintro _ rfl
            rintro _ rfl
            rintro _ rfl
            rintro _ rfl
            rintro _ rfl
            rintro _ rfl
            simp only [putAll, List.take, Act.put, List.setIfInBounds_toArray, List.set_cons_zero, List.set_cons_succ]
            refine wpAny_ready (rs := [10]) (by kernel_rfl) (by simp) (AllReady.cons rfl (fun KK hKK => ?_) AllReady.nil)
            have hv2 := own_ext HV.out hxw2
            obtain ⟨⟨u, hu2, hcv2⟩, hfv2, -⟩ := own_at hv2 hjl
            go_simp
            refine hKK _ _ ?_
            clear hKK KK
            refine wpAny_ready (rs := [11]) (by kernel_rfl) (by simp) (AllReady.cons rfl (fun KK hKK => ?_) AllReady.nil)
            go_simp
            refine hKK _ _ ?_
            clear hKK KK
            refine wpAny_done (by kernel_rfl) ?_ _
            have hv3 := (hv2.stored j (I X)).1
            rw [← List.map_set] at hv3
            have hx3 : Ext wb (w2.setCell ⟨wb.heap.size, j, none⟩ (I X)) := (HE.out.trans hxw2).setCell (by show wb.heap.size ≤ wb.heap.size; exact Nat.le_refl _) _
            have hgd3 : goodL (vv.set j X) := fun y hy => by
              rcases List.mem_or_eq_of_mem_set hy with h1 | h1
              · exact HGD.out y h1
              · rw [h1]; exact HXG.out
            have hvl3 : (vv.set j X).length = gn := by simpa using HVL.out
            clear hv2 hu2 hcv2 hfv2 hcL
            go_wp2
            go_roundw
            case rel => exact ⟨q + 1, vv.set j X, by omega, by go_num, hx3, hv3, hgd3, hvl3, HAL.out⟩
            case measure => simp [intOf]; omega
        · have hql : q = l.length := by omega
          subst hql
          rw [List.drop_length, alongM] at hAL
          subst hAL
          have HV := Lib.hid hv; have HE := Lib.hid hext
          clear hv hext hgd hvl q1' hlt hq
          go_wp2
          go_ret2
          exact ⟨_, rfl, by rw [HSL.out]; exact own_base HV.out (HX.out.trans XB.out).size, (HX.out.trans XB.out).trans HE.out⟩
  · rw [if_pos h0] at hM
    have g : (askedM N regs ins != 0) = true := by simpa using h0
    have HM := Lib.hid hM; clear hM h0
    go_enter Try.func39, Try.ntmps39
    go_wp2_with fail
    rw [← HW.out]
    refine (asked_any i GA gn gc RA rn rc OA on oc N RB pn pc IA jn jc regs ins W HN.out HR.out HI.out hpm hjm).mono ?_; rintro e w1 ⟨rfl, x1⟩
    go_wp2
    go_ret2
    exact ⟨.slice none 0 0, by rw [← HM.out]; rfl, by rw [← HM.out]; exact World.ownsRow_nil _ _ _ _, HX.out.trans x1⟩
end
end Go.Proofs.Ytjagbnaacfhokaa
/- Words of 64 lanes in the program's memory: SameWords, lane. -/
namespace Go.Proofs.Ytjagbnaacfhokaa
set_option linter.unusedVariables false
set_option linter.unusedSimpArgs false
open Go.RowKit

def uI (x : BitVec 64) : Int := (x.toNat : Int)
abbrev U (x : BitVec 64) : Value := .int .u64 (uI x)
theorem uI_inj {x y : BitVec 64} (h : uI x = uI y) : x = y := BitVec.eq_of_toNat_eq (by unfold uI at h; omega)
theorem uI_ne {x y : BitVec 64} (h : ¬ x = y) : (uI x != uI y) = true := by simpa using fun e => h (uI_inj e)
theorem uI_same (x : BitVec 64) : (uI x != uI x) = false := by simp
theorem uI_range (x : BitVec 64) : 0 ≤ uI x ∧ uI x < 18446744073709551616 := by unfold uI; have := x.isLt; omega
theorem uI_and (x y : BitVec 64) : bits .and .u64 (uI x) (uI y) = uI (x &&& y) := by
  unfold uI; rw [bits_and_u64_nat _ _ x.isLt y.isLt, BitVec.toNat_and]
theorem uI_or (x y : BitVec 64) : bits .or .u64 (uI x) (uI y) = uI (x ||| y) := by
  unfold uI; rw [bits_or_u64_nat _ _ x.isLt y.isLt, BitVec.toNat_or]
theorem uI_zero : uI 0#64 = 0 := rfl
theorem uI_ones : uI (BitVec.allOnes 64) = 18446744073709551615 := rfl
theorem uI_lane (x : BitVec 64) (k : Nat) : bits .and .u64 (uI x / 2 ^ k) 1 = bitI k x := by
  have h := uI_range x
  have h0 : 0 ≤ uI x / 2 ^ k := Int.ediv_nonneg h.1 (Int.le_of_lt (Int.pow_pos (by decide)))
  have h1 : uI x / 2 ^ k ≤ uI x := Int.ediv_le_self _ h.1
  rw [and_one_u64 _ h0 (by omega)]
  unfold uI bitI
  have e0 : ((x.toNat : Int) / 2 ^ k) % 2 = ((x.toNat / 2 ^ k % 2 : Nat) : Int) := by simp
  rw [e0, show x.getLsbD k = x.toNat.testBit k from rfl, Nat.testBit_eq_decide_div_mod_eq]
  rcases Nat.mod_two_eq_zero_or_one (x.toNat / 2 ^ k) with e | e <;> rw [e] <;> rfl
theorem uI_add (k : Nat) (hk : k < 64) (x : BitVec 64) : bits .or .u64 (uI (lowW k x)) (IntKind.u64.wrap (bitI k x * 2 ^ k)) = uI (lowW (k + 1) x) := by
  have hb : bitI k x * 2 ^ k = (((bitI k x).toNat * 2 ^ k : Nat) : Int) := by
    rcases bitI_01 k x with e | e <;> rw [e] <;> simp
  have hlt : (bitI k x).toNat * 2 ^ k < 18446744073709551616 := by
    have hp : 2 ^ k < 2 ^ 64 := Nat.pow_lt_pow_right (by decide) hk
    rcases bitI_01 k x with e | e <;> rw [e] <;> simp <;> omega
  rw [hb, IntKind.wrap_u64, show (((bitI k x).toNat * 2 ^ k : Nat) : Int) % 18446744073709551616 = (((bitI k x).toNat * 2 ^ k : Nat) : Int) from by omega]
  unfold uI
  rw [bits_or_u64_nat _ _ (lowW k x).isLt hlt, low_step]

set_option maxHeartbeats 1000000 in
theorem sameWords_eq (A B : Option Addr) (n c d : Nat) (xs ys : List (BitVec 64)) (w : World) (h : Sl w A n (xs.map U)) (h' : Sl w B n (ys.map U)) (hn : n ≤ maxLen) :
    Calls Try.prog 44 #[.slice A n c, .slice B n d] w fun e w' => e = .returned (.bool (sameM xs ys)) ∧ ∃ m, w' = w.drewN m := by
  unfold maxLen at hn
  have H := Lib.hid h; clear h
  have H' := Lib.hid h'; clear h'
  go_enter Try.func44, Try.ntmps44
  go_wp2
  go_loopw [5] (fun i wr => ∃ (k m : Nat), k ≤ n ∧ i = .int .i64 k ∧ wr = w.drewN m ∧ sameM (xs.drop k) (ys.drop k) = sameM xs ys) (fun i _ => n - (intOf i).toNat)
  case atStart => exact ⟨0, 0, Nat.zero_le _, rfl, rfl, rfl⟩
  case round =>
    obtain ⟨k, m, hk, rfl, rfl, hM⟩ := hrel
    by_cases hlt : k < n
    · obtain ⟨b, off, x, rfl, hc, hd⟩ := H.out.next hlt
      obtain ⟨b', off', y, rfl, hc', hd'⟩ := H'.out.next hlt
      rw [hd, hd', sameM] at hM
      have HM := Lib.hid hM; clear hM hd hd'
      by_cases hxy : x = y
      · have g3 : (uI x != uI y) = false := by rw [hxy]; exact uI_same y
        have H3 := Lib.hid hxy; clear hxy
        go_wp2_with fail
        go_quiet (fail)
        go_wp2
        go_roundw
        case rel => exact ⟨k + 1, _, by omega, by go_num, rfl, by rw [← HM.out]; simp [H3.out]⟩
        case measure => simp [intOf]; omega
      · have g3 : (uI x != uI y) = true := uI_ne hxy
        have H3 := Lib.hid hxy; clear hxy
        go_wp2_with fail
        go_quiet (fail)
        go_wp2
        go_ret; exact ⟨ret_bool (by rw [← HM.out]; simp [H3.out]), _, World.drewN_drewN _ _ _⟩
    · have hE : sameM ([] : List (BitVec 64)) (ys.drop k) = true := by cases ys.drop k <;> rfl
      rw [H.out.drop_end hlt, hE] at hM
      have HM := Lib.hid hM; clear hM hE
      go_wp2
      go_ret; exact ⟨ret_bool HM.out, _, rfl⟩
theorem sameWords_any (A B : Option Addr) (n m c d : Nat) (xs ys : List (BitVec 64)) (w : World) (h : Sl w A n (xs.map U)) (h' : Sl w B m (ys.map U)) (hn : n ≤ maxLen) (hm : m ≤ maxLen) :
    Calls Try.prog 44 #[.slice A n c, .slice B m d] w fun e w' => e = .returned (.bool (decide (xs = ys))) ∧ ∃ m, w' = w.drewN m := by
  by_cases hnm : n = m
  · subst hnm
    rw [← sameM_eq xs ys (by rw [h.len, h'.len])]
    exact sameWords_eq A B n c d xs ys w h h' hn
  · have hf : decide (xs = ys) = false := by
      simp; rintro rfl; exact hnm (h.len.symm.trans h'.len)
    rw [hf]
    have g : ((n : Int) != (m : Int)) = true := by simp; omega
    have H := Lib.hid h; have H' := Lib.hid h'; have HN := Lib.hid hnm
    clear h h' hnm hf
    go_enter Try.func44, Try.ntmps44
    go_wp2
    go_ret; exact ⟨rfl, 0, rfl⟩
end Go.Proofs.Ytjagbnaacfhokaa
