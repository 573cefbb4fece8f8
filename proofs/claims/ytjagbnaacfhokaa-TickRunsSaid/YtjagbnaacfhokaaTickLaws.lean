/- The bodies of TickDoes and TickRuns, from the contracts. -/
import Derived.Test.YtjagbnaacfhokaaTickBegun
import Derived.Test.YtjagbnaacfhokaaTern2
namespace Go.Proofs.Ytjagbnaacfhokaa
set_option linter.unusedVariables false
set_option linter.unusedSimpArgs false
open Go.RowKit

section
variable (i : Int) (GA : Option Addr) (gn gc : Nat) (RA : Option Addr) (rn rc : Nat) (OA : Option Addr) (on oc : Nat) (N : NetM)

set_option maxHeartbeats 2000000 in
theorem tickDoes_walk (RB : Option Addr) (pn pc : Nat) (IA : Option Addr) (jn jc : Nat) (regs ins : List Int) (w : World) (h : NetC w i GA gn gc RA rn rc OA on oc N) (hr : Sl w RB pn (regs.map I)) (hi : Sl w IA jn (ins.map I)) (hpm : pn ≤ maxLen) (hjm : jn ≤ maxLen) (hlo : -9223372036854775808 ≤ i) :
    Calls Try.prog 15 #[netV i GA gn gc RA rn rc OA on oc, .slice RB pn pc, .slice IA jn jc] w fun e w' => e = .returned (.bool true) ∧ Ext w w' := by
  obtain ⟨W, hW⟩ : ∃ W, W = w.alloc (.cells #[I i, .slice GA gn gc, .slice RA rn rc, .slice OA on oc] 26) := ⟨_, rfl⟩
  have hxW : Ext w W := by rw [hW]; exact (Ext.refl _).alloc _
  have hbox : NetBox W w.heap.size i GA gn gc RA rn rc OA on oc := by rw [hW]; exact NetBox.new w i GA gn gc RA rn rc OA on oc _
  have HN := Lib.hid (h.keep hxW.keeps); have HBox := Lib.hid hbox; have HW := Lib.hid hW; have HX := Lib.hid hxW
  have HR := Lib.hid (hr.keep hxW.keeps); have HI := Lib.hid (hi.keep hxW.keeps)
  clear h hr hi hW hxW hbox
  go_enter Try.func15, Try.ntmps15
  go_wp2_with fail
  rw [← HW.out]
  refine (do_any i GA gn gc RA rn rc OA on oc N RB pn pc IA jn jc regs ins W HN.out HR.out HI.out hpm hjm).mono ?_; rintro e w1 ⟨vo, vn, rfl, ho, hn, x1⟩
  generalize hM : doQ N regs ins = M at *
  generalize hE : doE N regs ins = E at *
  obtain ⟨A1', c1, rfl, n1, m1, hs1⟩ := own_sl ho
  obtain ⟨B1, d1, rfl, n2, m2, hs2⟩ := own_sl hn
  obtain ⟨q0, q1, q2, q3⟩ := HBox.out.keep x1.keeps
  have S1 := Lib.hid hs1; have S2 := Lib.hid hs2; have X1 := Lib.hid x1; have HM := Lib.hid hM; have HE := Lib.hid hE; clear hs1 hs2 x1 ho hn hM hE
  go_wp2_with fail
  refine (doOf_any i GA gn gc RA rn rc OA on oc N RB pn pc IA jn jc regs ins w1 (HN.out.keep X1.out.keeps) (HR.out.keep X1.out.keeps) (HI.out.keep X1.out.keeps) hpm hjm hlo).mono ?_; rintro e w2 ⟨vo, vn, rfl, ho, hn, x2⟩
  rw [HM.out] at ho hn
  rw [HE.out]
  obtain ⟨A2, c2, rfl, -, -, hs3⟩ := own_sl ho
  obtain ⟨B2, d2, rfl, -, -, hs4⟩ := own_sl hn
  have S1' := Lib.hid (S1.out.keep x2.keeps); have S2' := Lib.hid (S2.out.keep x2.keeps); have S3 := Lib.hid hs3; have S4 := Lib.hid hs4; have X2 := Lib.hid (X1.out.trans x2); clear hs3 hs4 x2 ho hn q0 q1 q2 q3 S1 S2
  go_wp2_with fail
  refine (tickBegun_any w2).mono ?_; rintro e w3 ⟨rfl, x3⟩
  have X3 := Lib.hid x3; clear x3
  go_wp2_with fail
  refine (sameInts_any A1' A2 _ _ c1 c2 M.1 M.1 w3 (S1'.out.keep X3.out.keeps) (S3.out.keep X3.out.keeps) (Nat.le_trans n1 m1) (Nat.le_trans n1 m1)).mono ?_; rintro e w4 ⟨rfl, m, rfl⟩
  have X4 := Lib.hid (X3.out.drewN m)
  rw [decide_eq_true (rfl : M.1 = M.1)]
  go_wp2_with fail
  refine (sameInts_any B1 B2 _ _ d1 d2 M.2 M.2 _ (S2'.out.keep X4.out.keeps) (S4.out.keep X4.out.keeps) (Nat.le_trans n2 m2) (Nat.le_trans n2 m2)).mono ?_; rintro e w4 ⟨rfl, m', rfl⟩
  rw [decide_eq_true (rfl : M.2 = M.2)]
  go_wp2
  go_ret
  exact ⟨by simp, (HX.out.trans (X2.out.trans X3.out)).drewN _⟩

set_option maxHeartbeats 2000000 in
theorem tickRuns_walk (A : Option Addr) (n c : Nat) (l : List Int) (w : World) (h : NetC w i GA gn gc RA rn rc OA on oc N) (hl : Sl w A n (l.map I)) (hn : n ≤ maxLen) (hlo : -9223372036854775808 ≤ i) :
    Calls Try.prog 16 #[netV i GA gn gc RA rn rc OA on oc, .slice A n c] w fun e w' => e = .returned (.bool true) ∧ Ext w w' := by
  obtain ⟨W, hW⟩ : ∃ W, W = w.alloc (.cells #[I i, .slice GA gn gc, .slice RA rn rc, .slice OA on oc] 26) := ⟨_, rfl⟩
  have hxW : Ext w W := by rw [hW]; exact (Ext.refl _).alloc _
  have hbox : NetBox W w.heap.size i GA gn gc RA rn rc OA on oc := by rw [hW]; exact NetBox.new w i GA gn gc RA rn rc OA on oc _
  have HN := Lib.hid (h.keep hxW.keeps); have HBox := Lib.hid hbox; have HW := Lib.hid hW; have HX := Lib.hid hxW
  have HL := Lib.hid (hl.keep hxW.keeps); have HNM := Lib.hid hn
  clear h hl hn hW hxW hbox
  go_enter Try.func16, Try.ntmps16
  go_wp2_with fail
  rw [← HW.out]
  refine (run_any i GA gn gc RA rn rc OA on oc N A n c l W HN.out HL.out HNM.out).mono ?_; rintro e w1 ⟨vo, vn, vs, rfl, ho, hn, x1⟩
  generalize hM : runV N l = M at *
  generalize hE : runE N l = E at *
  obtain ⟨A1', c1, rfl, n1, m1, hs1⟩ := ho.slice
  obtain ⟨B1, d1, rfl, n2, m2, hs2⟩ := own_sl hn
  obtain ⟨q0, q1, q2, q3⟩ := HBox.out.keep x1.keeps
  have S1 := Lib.hid hs1; have S2 := Lib.hid hs2; have X1 := Lib.hid x1; have HM := Lib.hid hM; have HE := Lib.hid hE; clear hs1 hs2 x1 ho hn hM hE
  go_wp2_with fail
  refine (runOf_any i GA gn gc RA rn rc OA on oc N A n c l w1 (HN.out.keep X1.out.keeps) (HL.out.keep X1.out.keeps) HNM.out hlo).mono ?_; rintro e w2 ⟨vo, vn, vs', rfl, ho, hn, x2⟩
  rw [HM.out] at ho hn
  rw [HE.out]
  obtain ⟨A2, c2, rfl, -, -, hs3⟩ := ho.slice
  obtain ⟨B2, d2, rfl, -, -, hs4⟩ := own_sl hn
  have S1' := Lib.hid (S1.out.keep x2.keeps); have S2' := Lib.hid (S2.out.keep x2.keeps); have S3 := Lib.hid hs3; have S4 := Lib.hid hs4; have X2 := Lib.hid (X1.out.trans x2); clear hs3 hs4 x2 ho hn q0 q1 q2 q3 S1 S2
  go_wp2_with fail
  refine (tickBegun_any w2).mono ?_; rintro e w3 ⟨rfl, x3⟩
  have X3 := Lib.hid x3; clear x3
  go_wp2_with fail
  refine (sameRows_any A1' A2 _ _ c1 c2 M.1 M.1 w3 (S1'.out.keep X3.out.keeps) (S3.out.keep X3.out.keeps) (Nat.le_trans n1 m1) (Nat.le_trans n1 m1)).mono ?_; rintro e w4 ⟨rfl, x4⟩
  have X4 := Lib.hid (X3.out.trans x4); clear x4
  rw [decide_eq_true (rfl : M.1 = M.1)]
  go_wp2_with fail
  refine (sameInts_any B1 B2 _ _ d1 d2 M.2 M.2 w4 (S2'.out.keep X4.out.keeps) (S4.out.keep X4.out.keeps) (Nat.le_trans n2 m2) (Nat.le_trans n2 m2)).mono ?_; rintro e w5 ⟨rfl, m', rfl⟩
  rw [decide_eq_true (rfl : M.2 = M.2)]
  go_wp2
  go_ret
  exact ⟨by simp, (HX.out.trans (X2.out.trans X4.out)).drewN _⟩
end
end Go.Proofs.Ytjagbnaacfhokaa
