/- The bodies of WalkSteps, WalkTells and WalkTrue, from the contracts. -/
import Derived.Test.YtejpnbomlnifkaaWalkBegun
namespace Go.Proofs.Ytejpnbomlnifkaa
set_option linter.unusedVariables false
set_option linter.unusedSimpArgs false
open Go.RowKit

theorem sameR_self (r : RestM) : sameR r r = true := sameR_eq rfl
set_option maxRecDepth 100000 in
set_option maxHeartbeats 4000000 in
theorem walkSteps_walk (PA : Option Addr) (n pc : Nat) (p : List PNode) (fr : Bool) (WA : Option Addr) (wn wc : Nat) (OA : Option Addr) (on oc : Nat) (r : RestM) (ins : Int) (w : World)
    (hp : SlN w PA n p) (hr : RestC w fr WA wn wc OA on oc r) (hn : n ≤ maxLen) :
    Calls Try.prog 5 #[.slice PA n pc, restV fr WA wn wc OA on oc, I ins] w fun e w' => e = .returned (.bool true) ∧ Ext w w' := by
  obtain ⟨W, hW⟩ : ∃ W, W = w.alloc (.cells #[Bv fr, .slice WA wn wc, .slice OA on oc] 39) := ⟨_, rfl⟩
  have hxW : Ext w W := by rw [hW]; exact (Ext.refl _).alloc _
  obtain ⟨q0, q1, q2, hsz⟩ := restBox w fr WA wn wc OA on oc hW
  have HP := Lib.hid (hp.keep hxW.keeps); have HR := Lib.hid (hr.keep hxW.keeps); have HW := Lib.hid hW; have HX := Lib.hid hxW
  have HQ : Hid (W.cell? ⟨w.heap.size, 0, none⟩ = some (Bv fr) ∧ W.cell? ⟨w.heap.size, 1, none⟩ = some (.slice WA wn wc) ∧ W.cell? ⟨w.heap.size, 2, none⟩ = some (.slice OA on oc)) := ⟨q0, q1, q2⟩
  generalize hM : stepM p r ins = M
  have HM := Lib.hid hM
  clear hp hr hW hxW hM
  go_enter Try.func5, Try.ntmps5
  go_wp2_with fail
  rw [← HW.out]
  go_wp2_with fail
  refine (walkStep_any PA n pc p fr WA wn wc OA on oc r ins W HP.out HR.out hn).mono ?_; rintro e w1 ⟨fr1, WA1, wn1, wc1, OA1, on1, oc1, rfl, hr1, -, -, x1⟩; rw [HM.out] at hr1 ⊢
  have HR1 := Lib.hid hr1; have X1 := Lib.hid x1; clear hr1 x1 q0 q1 q2
  obtain ⟨q0, q1, q2⟩ := HQ.out
  have z0 := X1.out.keeps _ _ q0; have z1 := X1.out.keeps _ _ q1; have z2 := X1.out.keeps _ _ q2
  clear q0 q1 q2
  have hsz1 : w.heap.size < w1.heap.size := Nat.lt_of_lt_of_le hsz X1.out.size
  go_wp2_with fail
  have hb1 : RBox (w1.alloc (.cells #[Bv fr1, .slice WA1 wn1 wc1, .slice OA1 on1 oc1] 39)) w1.heap.size fr1 WA1 wn1 wc1 OA1 on1 oc1 M.1 := RBox.new HR1.out
  have x2 := X1.out.alloc (.cells #[Bv fr1, .slice WA1 wn1 wc1, .slice OA1 on1 oc1] 39)
  have HB1 := Lib.hid hb1; have X2 := Lib.hid x2; clear hb1 x2 HR1 z0 z1 z2
  generalize w1.alloc (.cells #[Bv fr1, .slice WA1 wn1 wc1, .slice OA1 on1 oc1] 39) = W2 at *
  generalize w1.heap.size = b1 at *
  refine (walkOf_any PA n pc p fr WA wn wc OA on oc r ins W2 (HP.out.keep X2.out.keeps) (HR.out.keep X2.out.keeps) hn).mono ?_; rintro e w3 ⟨fr2, WA2, wn2, wc2, OA2, on2, oc2, rfl, hr2, -, -, x3⟩; rw [HM.out] at hr2 ⊢
  have HR2 := Lib.hid hr2; have X3 := Lib.hid x3; clear hr2 x3
  go_wp2_with fail
  have hb2 : RBox (w3.alloc (.cells #[Bv fr2, .slice WA2 wn2 wc2, .slice OA2 on2 oc2] 39)) w3.heap.size fr2 WA2 wn2 wc2 OA2 on2 oc2 M.1 := RBox.new HR2.out
  have x4 := X3.out.alloc (.cells #[Bv fr2, .slice WA2 wn2 wc2, .slice OA2 on2 oc2] 39)
  have HB2 := Lib.hid hb2; have X4 := Lib.hid x4; clear hb2 x4 HR2
  generalize w3.alloc (.cells #[Bv fr2, .slice WA2 wn2 wc2, .slice OA2 on2 oc2] 39) = W4 at *
  generalize w3.heap.size = b2 at *
  refine (walkBegun_any W4).mono ?_; rintro e w5 ⟨rfl, x5⟩
  have k1 := (HB1.out.keep X4.out).keep x5
  have k2 := HB2.out.keep x5
  have X5 := Lib.hid x5
  have K1 := Lib.hid k1; have K2 := Lib.hid k2
  have q0 := k1.c0; have q1 := k1.c1; have q2 := k1.c2; have p0 := k2.c0; have p1 := k2.c1; have p2 := k2.c2
  clear k1 k2 x5
  go_wp2_with fail
  refine (sameRests_any fr1 WA1 wn1 wc1 OA1 on1 oc1 M.1 fr2 WA2 wn2 wc2 OA2 on2 oc2 M.1 w5 K1.out.rest K2.out.rest).mono ?_; rintro e w6 ⟨rfl, x6⟩; rw [sameR_self]
  go_wp2
  go_ret
  exact ⟨by simp, (((HX.out.trans X2.out).trans X4.out).trans X5.out).trans x6⟩
end Go.Proofs.Ytejpnbomlnifkaa
