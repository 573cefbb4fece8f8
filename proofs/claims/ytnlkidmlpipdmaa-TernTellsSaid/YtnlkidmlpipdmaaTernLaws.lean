/- ternBegun, and the three laws' bodies, from the contracts. -/
import Derived.Test.YtnlkidmlpipdmaaTern2
namespace Go.Proofs.Ytnlkidmlpipdmaa
open Go.RowKit

theorem maxSmall (n : Nat) (h : n ≤ 4) : n ≤ maxLen := by unfold maxLen; omega

set_option maxHeartbeats 1000000 in
theorem ternBegun_any (w : World) :
    Calls Try.prog 10 #[] w fun e w' => e = .returned (.bool true) ∧ Ext w w' := by
  go_enter Try.func10, Try.ntmps10
  go_wp2_with fail
  refine (ternAll_any _ 3 3 [1, 2, 0] _ (by exact Sl.newAt _ _ [I 1, I 2, I 0] _ (by simp)) (maxSmall _ (by omega))).mono ?_; rintro e w1 ⟨rfl, rfl⟩; rw [show toldM 4 [1, 2, 0] = (0, 0) from by decide]
  go_wp2_with fail
  refine (ternAny_any _ 2 2 [0, 2] _ (by exact Sl.newAt _ _ [I 0, I 2] _ (by simp)) (maxSmall _ (by omega))).mono ?_; rintro e w1 ⟨rfl, rfl⟩; rw [show toldM 5 [0, 2] = (2, 0) from by decide]
  go_wp2_with fail
  refine (ternNot_any _ _).mono ?_; rintro e w1 ⟨rfl, h1⟩; rw [show toldM 6 [2] = (2, 0) from by decide]
  go_wp2_with fail
  refine (ternLeq_any _ _ 2 2 2 2 [2, 1] [0, 1] _ (Sl.keep (by exact Sl.newAt w1 _ [I 2, I 1] _ (by simp)) (Keeps.alloc _ _)) (by exact Sl.newAt _ _ [I 0, I 1] _ (by simp)) (maxSmall _ (by omega)) (maxSmall _ (by omega))).mono ?_; rintro e w2 ⟨rfl, h2⟩; rw [show leqOfM [2, 1] [0, 1] = (true, 0) from by decide]
  go_wp2_with fail
  refine (ternLeq_any _ _ 1 0 1 0 [2] [] _ (by exact Sl.newAt _ _ [I 2] _ (by simp)) (Sl.nil _ _) (maxSmall _ (by omega)) (maxSmall _ (by omega))).mono ?_; rintro e w3 ⟨rfl, h3⟩; rw [show leqOfM [2] [] = (false, 1) from by decide]
  go_wp2_with fail
  refine (ternAll_any _ 1 1 [3] _ (by exact Sl.newAt _ _ [I 3] _ (by simp)) (maxSmall _ (by omega))).mono ?_; rintro e w4 ⟨rfl, rfl⟩; rw [show toldM 4 [3] = (0, 3) from by decide]
  go_wp2_with fail
  refine (ternAll_any _ 0 0 [] _ (Sl.nil _ _) (maxSmall _ (by omega))).mono ?_; rintro e w5 ⟨rfl, rfl⟩; rw [show toldM 4 [] = (1, 0) from by decide]
  go_wp2_with fail
  refine (ternCheck_any _ 2 2 [0, -1] _ (by exact Sl.newAt _ _ [I 0, I (-1)] _ (by simp)) (maxSmall _ (by omega))).mono ?_; rintro e w6 ⟨rfl, rfl⟩; rw [show checkM [0, -1] = 3 from by decide]
  go_wp2
  go_ret
  exact ⟨rfl, (((((((((Ext.refl w).alloc _).alloc _).trans h1).alloc _).alloc _).trans h2).alloc _).trans h3).alloc _ |>.alloc _⟩

theorem refAllOf' (A : Option Addr) (n c : Nat) (xs : List Int) (w : World) (h : Sl w A n (xs.map I)) (hn : n ≤ maxLen) :
    Calls Try.prog 8 #[.slice A n c] w fun e w' => e = .returned (Pr (I (toldM 4 xs).1) (I (toldM 4 xs).2)) ∧ w = w' := by
  rw [told_all]; exact refAllOf_any A n c xs w h hn
theorem refAnyOf' (A : Option Addr) (n c : Nat) (xs : List Int) (w : World) (h : Sl w A n (xs.map I)) (hn : n ≤ maxLen) :
    Calls Try.prog 9 #[.slice A n c] w fun e w' => e = .returned (Pr (I (toldM 5 xs).1) (I (toldM 5 xs).2)) ∧ w = w' := by
  rw [told_any]; exact refAnyOf_any A n c xs w h hn
theorem refNotOf' (x : Int) (w : World) :
    Calls Try.prog 15 #[I x] w fun e w' => e = .returned (Pr (I (toldM 6 [x]).1) (I (toldM 6 [x]).2)) ∧ Ext w w' := by
  rw [told_not]; exact refNotOf_any x w
theorem refLeqOf' (A B : Option Addr) (n m c d : Nat) (xs ys : List Int) (w : World) (h : Sl w A n (xs.map I)) (h' : Sl w B m (ys.map I)) (hn : n ≤ maxLen) (hm : m ≤ maxLen) :
    Calls Try.prog 16 #[.slice A n c, .slice B m d] w fun e w' => e = .returned (Pr (.bool (leqOfM xs ys).1) (I (leqOfM xs ys).2)) ∧ Ext w w' := by
  rw [← leqOfM_eq]; exact refLeqOf_any A B n m c d xs ys w h h' hn hm

set_option maxHeartbeats 1000000 in
theorem ternTells_walk (A : Option Addr) (n c : Nat) (xs : List Int) (w : World) (h : Sl w A n (xs.map I)) (hn : n ≤ maxLen) :
    Calls Try.prog 3 #[.slice A n c] w fun e w' => e = .returned (.bool true) ∧ Ext w w' := by
  have hv := valuesM_eq xs
  have H := Lib.hid h; clear h
  generalize hb : xs.any bad3 = b at hv
  have HC : Hid (checkM xs = if b then 3 else 0) := by unfold Hid; rw [checkM, hb]
  have HV := Lib.hid hv; clear hv hb
  cases b
  all_goals
    go_enter Try.func3, Try.ntmps3
    go_wp2_with fail
    refine (ternAll_any A n c xs w H.out hn).mono ?_; rintro e w' ⟨rfl, rfl⟩
    go_wp2_with fail
    refine (ternAny_any A n c xs w H.out hn).mono ?_; rintro e w' ⟨rfl, rfl⟩
    go_wp2_with fail
    refine (refAllOf' A n c xs w H.out hn).mono ?_; rintro e w' ⟨rfl, rfl⟩
    go_wp2_with fail
    refine (refAnyOf' A n c xs w H.out hn).mono ?_; rintro e w' ⟨rfl, rfl⟩
    go_wp2_with fail
    refine (ternBegun_any w).mono ?_; rintro e w1 ⟨rfl, h1⟩
    go_wp2_with fail
    refine (ternCheck_any A n c xs w1 (H.out.keep h1.keeps) hn).mono ?_; rintro e w' ⟨rfl, rfl⟩; rw [HC.out]
    go_wp2_with fail
    refine (values_any A n c xs w1 (H.out.keep h1.keeps) hn).mono ?_; rintro e w' ⟨rfl, rfl⟩; rw [HV.out]
    go_wp2
    go_ret
    exact ⟨by simp, h1⟩

set_option maxHeartbeats 1000000 in
theorem ternLeq_walk (A B : Option Addr) (n m c d : Nat) (xs ys : List Int) (v : Int) (w : World) (h : Sl w A n (xs.map I)) (h' : Sl w B m (ys.map I)) (hn : n ≤ maxLen) (hm : m ≤ maxLen) :
    Calls Try.prog 4 #[.slice A n c, .slice B m d, I v] w fun e w' => e = .returned (.bool true) ∧ Ext w w' := by
  have H := Lib.hid h; clear h
  have H' := Lib.hid h'; clear h'
  go_enter Try.func4, Try.ntmps4
  go_wp2_with fail
  refine (ternNot_any v w).mono ?_; rintro e w1 ⟨rfl, h1⟩
  go_wp2_with fail
  refine (ternLeq_any A B n m c d xs ys w1 (H.out.keep h1.keeps) (H'.out.keep h1.keeps) hn hm).mono ?_; rintro e w2 ⟨rfl, h2⟩
  have h12 := h1.trans h2
  go_wp2_with fail
  refine (refNotOf' v w2).mono ?_; rintro e w3 ⟨rfl, h3⟩
  have h13 := h12.trans h3
  go_wp2_with fail
  refine (refLeqOf' A B n m c d xs ys w3 (H.out.keep h13.keeps) (H'.out.keep h13.keeps) hn hm).mono ?_; rintro e w4 ⟨rfl, h4⟩
  have h14 := h13.trans h4
  go_wp2_with fail
  refine (ternBegun_any w4).mono ?_; rintro e w5 ⟨rfl, h5⟩
  go_wp2
  go_ret
  exact ⟨by simp, h14.trans h5⟩
end Go.Proofs.Ytnlkidmlpipdmaa
