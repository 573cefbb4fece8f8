/- net.Begin of right nets; netBegun. -/
import Derived.Test.YtjagbnaacfhokaaRc21
import Derived.Test.YtjagbnaacfhokaaRc22
namespace Go.Proofs.Ytjagbnaacfhokaa
set_option linter.unusedVariables false
set_option linter.unusedSimpArgs false
open Go.RowKit

theorem netBegin_ok (i : Int) (GA : Option Addr) (gn gc : Nat) (RA : Option Addr) (rn rc : Nat) (OA : Option Addr) (on oc : Nat) (N : NetM) (w : World)
    (h : NetC w i GA gn gc RA rn rc OA on oc N) (he : checkN N = 0) :
    Calls Try.prog 73 #[netV i GA gn gc RA rn rc OA on oc] w fun e' w' => ∃ v, e' = .returned (Pr v (I 0)) ∧ w'.ownsRow w.heap.size 3 1 v rn ((firstM N).map I) ∧ Ext w w' := by
  have hr : rn ≤ 20 := by have := (checkN_ok he).rl; have := h.regs.1; omega
  obtain ⟨W, hW⟩ : ∃ W, W = w.alloc (.cells #[I i, .slice GA gn gc, .slice RA rn rc, .slice OA on oc] 26) := ⟨_, rfl⟩
  have hxW : Ext w W := by rw [hW]; exact (Ext.refl _).alloc _
  have hbox : NetBox W w.heap.size i GA gn gc RA rn rc OA on oc := by rw [hW]; exact NetBox.new w i GA gn gc RA rn rc OA on oc _
  have HBox := Lib.hid hbox
  have HE := Lib.hid he; have HC := Lib.hid (h.keep hxW.keeps); have HW := Lib.hid hW; clear he h hW hbox
  go_enter Try.func73, Try.ntmps73
  go_wp2_with fail
  rw [← HW.out]
  refine (netCheck_any i GA gn gc RA rn rc OA on oc N W HC.out).mono ?_; rintro e' w1 ⟨rfl, h1⟩; rw [HE.out]
  obtain ⟨q0, q1, q2, q3⟩ := HBox.out.keep h1.keeps
  go_wp2_with fail
  refine (first_any i GA gn gc RA rn rc OA on oc N w1 (HC.out.keep h1.keeps) hr).mono ?_; rintro e' w2 ⟨v, rfl, hown, h2⟩
  have HO := Lib.hid hown; clear hown
  go_wp2
  go_ret2
  exact ⟨_, rfl, own_base HO.out (hxW.trans h1).size, (hxW.trans h1).trans h2⟩

theorem netC_zero (w : World) : NetC w 0 none 0 0 none 0 0 none 0 0 ⟨0, [], [], []⟩ :=
  ⟨rfl, ⟨rfl, by simp⟩, ⟨rfl, by simp⟩, Sl.nil _ _, ⟨by decide, ml_small (by decide)⟩, ⟨by decide, ml_small (by decide)⟩, ⟨by decide, ml_small (by decide)⟩⟩
theorem knot_x (w : World) : (knotW w).setCell ⟨w.heap.size + 8, 8, none⟩ (.slice none 0 0) = allocs w (knotOs w.heap.size (knotGs w.heap.size [] none [7, 9] (A7 w.heap.size)) 6) :=
  (allocs_set (j := 8) rfl 8 (.slice none 0 0) rfl).trans rfl
theorem knot_y (w : World) : (knotW w).setCell ⟨w.heap.size + 9, 1, none⟩ (I 10) = allocs w (knotOs w.heap.size (knotGs w.heap.size [1] (A1 w.heap.size) [7, 9] (A7 w.heap.size)) 10) :=
  (allocs_set (j := 9) rfl 1 (I 10) rfl).trans rfl
theorem knot_xc (w : World) : ∀ o, ((knotW w).alloc o).cell? ⟨w.heap.size + 8, 8, none⟩ = some (.slice (some ⟨w.heap.size + 1, 0, none⟩) 1 1) ∧ ((knotW w).alloc o).frozen? ⟨w.heap.size + 8, 8, none⟩ = false := fun o => by
  have hs : w.heap.size + 8 < (knotW w).heap.size := by rw [allocs_size]; simp [knotOs]
  refine ⟨?_, ?_⟩
  · rw [World.cell?_alloc_lt _ _ _ hs]; exact (allocs_cell (j := 8) rfl 8).trans rfl
  · rw [World.frozen?_alloc_past _ _ _ hs]; exact allocs_free (j := 8) rfl 8
theorem knot_yc (w : World) : ∀ o, ((knotW w).alloc o).cell? ⟨w.heap.size + 9, 1, none⟩ = some (I 6) ∧ ((knotW w).alloc o).frozen? ⟨w.heap.size + 9, 1, none⟩ = false := fun o => by
  have hs : w.heap.size + 9 < (knotW w).heap.size := by rw [allocs_size]; simp [knotOs]
  refine ⟨?_, ?_⟩
  · rw [World.cell?_alloc_lt _ _ _ hs]; exact (allocs_cell (j := 9) rfl 1).trans rfl
  · rw [World.frozen?_alloc_past _ _ _ hs]; exact allocs_free (j := 9) rfl 1
theorem knotW_ext (w : World) : Ext w (knotW w) := allocs_ext _ _
theorem knotW_size (w : World) : (knotW w).heap.size = w.heap.size + 11 := by rw [allocs_size]; rfl

set_option maxRecDepth 100000 in
set_option maxHeartbeats 8000000 in
theorem netBegun_any (w : World) : Calls Try.prog 27 #[] w fun e w' => e = .returned (.bool true) ∧ Ext w w' := by
  go_enter Try.func27, Try.ntmps27
  go_wp2_with fail
  refine (knot_any w).mono ?_; rintro e w0 ⟨rfl, rfl⟩
  go_wp2_with fail
  refine (netBegin_ok _ _ _ _ _ _ _ _ _ _ knotM _ (knotC0 w) (by decide)).mono ?_; rintro e w1 ⟨v, rfl, hown, h1⟩
  have x1 := (knotW_ext w).trans h1
  obtain ⟨B, cb, rfl, -, -, hs⟩ := own_sl hown
  rw [show firstM knotM = [0] from by decide] at hs
  have HB := Lib.hid hs; clear hs hown h1
  go_wp2_with fail
  refine (knot_any w1).mono ?_; rintro e w0 ⟨rfl, rfl⟩
  go_wp2_with fail
  refine (netNeeds_ok _ _ _ _ _ _ _ _ _ _ knotM _ 1 1 [4] _ ((knotC0 w1).keep (Keeps.alloc _ _)) (by exact Sl.newAt _ _ [I 4] _ rfl) (by decide) (by decide)).mono ?_; rintro e w2 ⟨v, rfl, hown, h2⟩
  have k2 : Ext w1 w2 := ((knotW_ext w1).alloc _).trans h2
  obtain ⟨L, cl, rfl, -, -, hs⟩ := own_sl hown
  rw [show needsM knotM.gates [4] = [true, true, true, false, true, false, false, false, false, false] from by decide] at hs
  have x2 := x1.trans k2
  have HL := Lib.hid hs; have HB2 := Lib.hid (HB.out.keep k2.keeps); clear hs hown h2 k2 HB x1
  go_wp2_with fail
  refine (knot_any w2).mono ?_; rintro e w0 ⟨rfl, rfl⟩
  go_wp2_with fail
  refine (netNeeds_err _ _ _ _ _ _ _ _ _ _ knotM _ 1 1 [10] _ ((knotC0 w2).keep (Keeps.alloc _ _)) (by exact Sl.newAt _ _ [I 10] _ rfl) (ml_small (by decide)) 3 (by decide) (by decide)).mono ?_; rintro e w3 ⟨rfl, h3⟩
  have k3 : Ext w2 w3 := ((knotW_ext w2).alloc _).trans h3
  have x3 := x2.trans k3
  have HL3 := Lib.hid (HL.out.keep k3.keeps); have HB3 := Lib.hid (HB2.out.keep k3.keeps); clear h3 k3 HL HB2 x2
  go_wp2_with fail
  refine (knot_any w3).mono ?_; rintro e w0 ⟨rfl, rfl⟩
  have fx := knot_xc w3
  have fx1 := fun o => (fx o).1
  have fx2 := fun o => (fx o).2
  clear fx
  go_wp2_with fail
  clear fx1 fx2
  obtain ⟨wx, hwx⟩ : ∃ wx, wx = ((knotW w3).alloc (.cells #[.int .i64 1, .slice (some ⟨w3.heap.size + 8, 0, none⟩) 10 10, .slice (some ⟨w3.heap.size + 9, 0, none⟩) 1 1, .slice (some ⟨w3.heap.size + 10, 0, none⟩) 2 2] 26)).setCell ⟨w3.heap.size + 8, 8, none⟩ (.slice none 0 0) := ⟨_, rfl⟩
  rw [← hwx]
  have hwx2 : wx = (allocs w3 (knotOs w3.heap.size (knotGs w3.heap.size [] none [7, 9] (A7 w3.heap.size)) 6)).alloc (.cells #[.int .i64 1, .slice (some ⟨w3.heap.size + 8, 0, none⟩) 10 10, .slice (some ⟨w3.heap.size + 9, 0, none⟩) 1 1, .slice (some ⟨w3.heap.size + 10, 0, none⟩) 2 2] 26) := by
    rw [hwx, alloc_set _ _ _ _ _ (by rw [knotW_size]; omega), knot_x]
  have kx : Ext w3 wx := by rw [hwx2]; exact (allocs_ext _ _).alloc _
  have cx : NetC wx 1 (some ⟨w3.heap.size + 8, 0, none⟩) 10 10 (some ⟨w3.heap.size + 9, 0, none⟩) 1 1 (some ⟨w3.heap.size + 10, 0, none⟩) 2 2 (knotN [] [7, 9] 6) := by
    rw [hwx2]
    exact (knotC rfl ⟨by decide, Sl.nil _ _⟩ ⟨by decide, Sl.lit (j := 7) (cs := [I 7, I 9]) (T := 3) (fr := (0, 0)) rfl rfl⟩).keep (Keeps.alloc _ _)
  have bx : NetBox wx (knotW w3).heap.size 1 (some ⟨w3.heap.size + 8, 0, none⟩) 10 10 (some ⟨w3.heap.size + 9, 0, none⟩) 1 1 (some ⟨w3.heap.size + 10, 0, none⟩) 2 2 := by
    have e : (knotW w3).heap.size = (allocs w3 (knotOs w3.heap.size (knotGs w3.heap.size [] none [7, 9] (A7 w3.heap.size)) 6)).heap.size := by rw [knotW_size, allocs_size]; rfl
    rw [hwx2, e]
    exact NetBox.new _ _ _ _ _ _ _ _ _ _ _ _
  have x4 := x3.trans kx
  have HLx := Lib.hid (HL3.out.keep kx.keeps); have HBx := Lib.hid (HB3.out.keep kx.keeps)
  have CX := Lib.hid cx; have BX := Lib.hid bx
  clear hwx hwx2 kx cx bx HL3 HB3 x3
  generalize (knotW w3).heap.size = bX at *
  go_wp2_with fail
  refine (knot_any wx).mono ?_; rintro e w0 ⟨rfl, rfl⟩
  have fy := knot_yc wx
  have fy1 := fun o => (fy o).1
  have fy2 := fun o => (fy o).2
  clear fy
  go_wp2_with fail
  clear fy1 fy2
  obtain ⟨wy, hwy⟩ : ∃ wy, wy = ((knotW wx).alloc (.cells #[.int .i64 1, .slice (some ⟨wx.heap.size + 8, 0, none⟩) 10 10, .slice (some ⟨wx.heap.size + 9, 0, none⟩) 1 1, .slice (some ⟨wx.heap.size + 10, 0, none⟩) 2 2] 26)).setCell ⟨wx.heap.size + 9, 1, none⟩ (.int .i64 10) := ⟨_, rfl⟩
  rw [← hwy]
  have hwy2 : wy = (allocs wx (knotOs wx.heap.size (knotGs wx.heap.size [1] (A1 wx.heap.size) [7, 9] (A7 wx.heap.size)) 10)).alloc (.cells #[.int .i64 1, .slice (some ⟨wx.heap.size + 8, 0, none⟩) 10 10, .slice (some ⟨wx.heap.size + 9, 0, none⟩) 1 1, .slice (some ⟨wx.heap.size + 10, 0, none⟩) 2 2] 26) := by
    rw [hwy, alloc_set _ _ _ _ _ (by rw [knotW_size]; omega), knot_y]
  have ky : Ext wx wy := by rw [hwy2]; exact (allocs_ext _ _).alloc _
  have cy : NetC wy 1 (some ⟨wx.heap.size + 8, 0, none⟩) 10 10 (some ⟨wx.heap.size + 9, 0, none⟩) 1 1 (some ⟨wx.heap.size + 10, 0, none⟩) 2 2 (knotN [1] [7, 9] 10) := by
    rw [hwy2]
    exact (knotC rfl ⟨by decide, Sl.lit (j := 1) (cs := [I 1]) (T := 3) (fr := (0, 0)) rfl rfl⟩ ⟨by decide, Sl.lit (j := 7) (cs := [I 7, I 9]) (T := 3) (fr := (0, 0)) rfl rfl⟩).keep (Keeps.alloc _ _)
  have by_ : NetBox wy (knotW wx).heap.size 1 (some ⟨wx.heap.size + 8, 0, none⟩) 10 10 (some ⟨wx.heap.size + 9, 0, none⟩) 1 1 (some ⟨wx.heap.size + 10, 0, none⟩) 2 2 := by
    have e : (knotW wx).heap.size = (allocs wx (knotOs wx.heap.size (knotGs wx.heap.size [1] (A1 wx.heap.size) [7, 9] (A7 wx.heap.size)) 10)).heap.size := by rw [knotW_size, allocs_size]; rfl
    rw [hwy2, e]
    exact NetBox.new _ _ _ _ _ _ _ _ _ _ _ _
  have x5 := x4.trans ky
  have HLy := Lib.hid (HLx.out.keep ky.keeps); have HBy := Lib.hid (HBx.out.keep ky.keeps)
  have CXy := Lib.hid (CX.out.keep ky.keeps); have BXy := Lib.hid (BX.out.keep ky.keeps)
  have CY := Lib.hid cy; have BY := Lib.hid by_
  clear hwy hwy2 ky cy by_ HLx HBx CX BX x4
  generalize (knotW wx).heap.size = bY at *
  go_wp2_with fail
  refine (knot_any wy).mono ?_; rintro e w0 ⟨rfl, rfl⟩
  go_wp2_with fail
  refine (netCheck_any _ _ _ _ _ _ _ _ _ _ knotM _ (knotC0 wy)).mono ?_; rintro e w6 ⟨rfl, h6⟩; rw [show checkN knotM = 0 from by decide]
  have k6 := (knotW_ext wy).trans h6; clear h6
  go_wp2_with fail
  refine (netCheck_any _ _ _ _ _ _ _ _ _ _ _ _ (netC_zero w6)).mono ?_; rintro e w7 ⟨rfl, h7⟩; rw [show checkN ⟨0, [], [], []⟩ = 0 from by decide]
  have k7 := k6.trans h7; clear h7 k6
  obtain ⟨q0, q1, q2, q3⟩ := BXy.out.keep k7.keeps
  go_wp2_with fail
  refine (netCheck_any _ _ _ _ _ _ _ _ _ _ _ _ (CXy.out.keep k7.keeps)).mono ?_; rintro e w8 ⟨rfl, h8⟩; rw [show checkN (knotN [] [7, 9] 6) = 1 from by decide]
  have k8 := k7.trans h8; clear h8 k7 q0 q1 q2 q3
  obtain ⟨q0, q1, q2, q3⟩ := BY.out.keep k8.keeps
  go_wp2_with fail
  refine (netCheck_any _ _ _ _ _ _ _ _ _ _ _ _ (CY.out.keep k8.keeps)).mono ?_; rintro e w9 ⟨rfl, h9⟩; rw [show checkN (knotN [1] [7, 9] 10) = 3 from by decide]
  have k9 := k8.trans h9; clear h9 k8 q0 q1 q2 q3
  go_wp2_with fail
  refine (sameInts_any B _ 1 1 cb 1 [0] [0] _ ((HBy.out.keep k9.keeps).keep (Keeps.alloc _ _)) (by exact Sl.newAt _ _ [I 0] _ rfl) (ml_small (by decide)) (ml_small (by decide))).mono ?_; rintro e w10 ⟨rfl, m, rfl⟩
  rw [show decide (([0] : List Int) = [0]) = true from by decide]
  go_wp2_with fail
  refine (sameBools_any L _ 10 10 cl 10 [true, true, true, false, true, false, false, false, false, false] [true, true, true, false, true, false, false, false, false, false] _ ((HLy.out.keep k9.keeps).keep (((((Ext.refl _).alloc _).drewN _).alloc _).keeps)) (by exact Sl.newAt _ _ [Bv true, Bv true, Bv true, Bv false, Bv true, Bv false, Bv false, Bv false, Bv false, Bv false] _ (by simp)) (ml_small (by decide)) (ml_small (by decide))).mono ?_; rintro e w11 ⟨rfl, m2, rfl⟩
  go_wp2
  go_ret
  exact ⟨by simp, x5.trans ((((k9.alloc _).drewN _).alloc _).drewN _)⟩
end Go.Proofs.Ytjagbnaacfhokaa
