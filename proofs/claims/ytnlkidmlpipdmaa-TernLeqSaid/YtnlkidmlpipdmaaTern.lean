/- The functions of three values (package tern, and the reference): each walked once. -/
import Derived.Test.YtnlkidmlpipdmaaChecked
import Derived.Test.YtnlkidmlpipdmaaLib
import Derived.Test.YtnlkidmlpipdmaaTernPlain
namespace Go.Proofs.Ytnlkidmlpipdmaa
open Go.RowKit

theorem within_any (n lo hi : Int) (w : World) :
    Calls Try.prog 22 #[I n, I lo, I hi] w fun e w' => e = .returned (.bool (decide (lo ≤ n) && decide (n ≤ hi))) ∧ w = w' := by
  go_enter Try.func22, Try.ntmps22
  go_wp2
  all_goals go_ret
  all_goals exact ⟨ret_bool (by simp <;> omega), rfl⟩

theorem check1_any (n : Int) (w : World) :
    Calls Try.prog 21 #[I n] w fun e w' => e = .returned (.bool (bad3 n)) ∧ w = w' := by
  go_enter Try.func21, Try.ntmps21
  go_wp2
  all_goals go_ret
  all_goals exact ⟨ret_bool (by simp [bad3, *]), rfl⟩

/-! gather -/
theorem gather_any (A : Option Addr) (n c : Nat) (xs : List Int) (rules none : Int) (w : World) (h : Sl w A n (xs.map I)) (hn : n ≤ maxLen) :
    Calls Try.prog 28 #[.slice A n c, I rules, I none] w fun e w' => e = .returned (I (gatherM rules xs none)) ∧ w = w' := by
  unfold maxLen at hn
  have H := Lib.hid h; clear h
  go_enter Try.func28, Try.ntmps28
  go_wp2
  go_loop [7, 13] (fun o i => ∃ (k : Nat) (out : Int), k ≤ n ∧ i = .int .i64 k ∧ o = .int .i64 out ∧ gatherM rules (xs.drop k) out = gatherM rules xs none) (fun _ i => n - (intOf i).toNat)
  case atStart => exact ⟨0, none, Nat.zero_le _, rfl, rfl, rfl⟩
  case round =>
    obtain ⟨k, out, hk, rfl, rfl, hM⟩ := hrel
    by_cases hlt : k < n
    · obtain ⟨ad, x, rfl, hc, hd⟩ := H.out.next hlt
      rw [hd, gatherM] at hM
      have HM := Lib.hid hM; clear hM hd
      go_wp2
      · have hx : (x == rules) = true := by assumption
        go_ret; exact ⟨ret_int (by rw [← HM.out, if_pos (by simpa using hx)]), rfl⟩
      all_goals
        rename_i h1 h2
        have hx : ¬ x = rules := by simpa using h1
        go_round
        case rel => exact ⟨k + 1, _, by omega, by go_num, rfl, by rw [← HM.out, if_neg hx]; simp_all⟩
        case measure => simp [intOf]; omega
    · rw [H.out.drop_end hlt] at hM
      have HM := Lib.hid hM; clear hM
      go_wp2
      go_ret; exact ⟨ret_int HM.out, rfl⟩

/-! IndexFunc, ContainsFunc, Check -/
/-- What a function value answers of one number, in world w, nothing turned. -/
def Asks (P : Program) (g : FuncId) (caps : Array Value) (w : World) (q : Int → Bool) : Prop :=
  (∀ args W, (callFunc g args).run P W = .ok (.enter g args) W) ∧ ∀ x, Calls P g (#[I x] ++ caps) w fun e w' => e = .returned (.bool (q x)) ∧ w = w'

theorem indexFunc_any (A : Option Addr) (n c : Nat) (xs : List Int) (g : FuncId) (caps : Array Value) (q : Int → Bool) (w : World) (h : Sl w A n (xs.map I)) (hn : n ≤ maxLen) (hq : Asks Try.prog g caps w q) :
    Calls Try.prog 27 #[.slice A n c, .func (.func g) #[] caps] w fun e w' => e = .returned (I (indexM q xs 0)) ∧ w = w' := by
  unfold maxLen at hn
  have H := Lib.hid h; clear h
  have HQ := Lib.hid hq; clear hq
  go_enter Try.func27, Try.ntmps27
  go_wp2
  go_loop [8] (fun i => ∃ (k : Nat), k ≤ n ∧ i = .int .i64 k ∧ indexM q (xs.drop k) k = indexM q xs 0) (fun i => n - (intOf i).toNat)
  case atStart => exact ⟨0, Nat.zero_le _, rfl, rfl⟩
  case round =>
    obtain ⟨k, hk, rfl, hM⟩ := hrel
    by_cases hlt : k < n
    · obtain ⟨ad, x, rfl, hc, hd⟩ := H.out.next hlt
      rw [hd, indexM] at hM
      have HM := Lib.hid hM; clear hM hd
      have hcf := HQ.out.1
      by_cases hqx : q x = true
      all_goals
        go_wp2_with (refine (HQ.out.2 x).mono ?_; rintro e w' ⟨rfl, rfl⟩)
      · go_ret; exact ⟨ret_int (by rw [← HM.out, if_pos hqx]), rfl⟩
      · go_round
        case rel => exact ⟨k + 1, by omega, by go_num, by rw [← HM.out, if_neg hqx]; simp⟩
        case measure => simp [intOf]; omega
    · rw [H.out.drop_end hlt, indexM] at hM
      have HM := Lib.hid hM; clear hM
      go_wp2
      go_ret; exact ⟨ret_int HM.out, rfl⟩

theorem enter_check1 : ∀ args W, (callFunc 21 args).run Try.prog W = .ok (.enter 21 args) W := by
  intro args W
  go_simp
theorem asks_check1 (w : World) : Asks Try.prog 21 #[] w bad3 := ⟨enter_check1, fun x => check1_any x w⟩

theorem containsFunc_any (A : Option Addr) (n c : Nat) (xs : List Int) (g : FuncId) (caps : Array Value) (q : Int → Bool) (w : World) (h : Sl w A n (xs.map I)) (hn : n ≤ maxLen) (hq : Asks Try.prog g caps w q) :
    Calls Try.prog 20 #[.slice A n c, .func (.func g) #[] caps] w fun e w' => e = .returned (.bool (xs.any q)) ∧ w = w' := by
  have H := Lib.hid h; clear h
  have HQ := Lib.hid hq; clear hq
  have HM := Lib.hid (indexM_lo q xs 0 (Int.le_refl _))
  go_enter Try.func20, Try.ntmps20
  go_wp2_with (go_at_call 27; refine (indexFunc_any A n c xs g caps q w H.out hn HQ.out).mono ?_; rintro e w' ⟨rfl, rfl⟩)
  go_ret; exact ⟨ret_bool HM.out, rfl⟩

theorem ternCheck_any (A : Option Addr) (n c : Nat) (xs : List Int) (w : World) (h : Sl w A n (xs.map I)) (hn : n ≤ maxLen) :
    Calls Try.prog 11 #[.slice A n c] w fun e w' => e = .returned (I (checkM xs)) ∧ w = w' := by
  have H := Lib.hid h; clear h
  by_cases hb : xs.any bad3 = true
  · have HM : Hid (checkM xs = 3) := by unfold Hid; simp [checkM, hb]
    have HB := Lib.hid hb; clear hb
    go_enter Try.func11, Try.ntmps11
    go_wp2_with (go_at_call 20; refine (containsFunc_any A n c xs _ _ bad3 w H.out hn (asks_check1 w)).mono ?_; rintro e w' ⟨rfl, rfl⟩; rw [HB.out])
    go_ret; exact ⟨ret_int HM.out.symm, rfl⟩
  · have hb : xs.any bad3 = false := by simpa using hb
    have HM : Hid (checkM xs = 0) := by unfold Hid; simp only [checkM, hb]; rfl
    have HB := Lib.hid hb; clear hb
    go_enter Try.func11, Try.ntmps11
    go_wp2_with (go_at_call 20; refine (containsFunc_any A n c xs _ _ bad3 w H.out hn (asks_check1 w)).mono ?_; rintro e w' ⟨rfl, rfl⟩; rw [HB.out])
    go_ret; exact ⟨ret_int HM.out.symm, rfl⟩

theorem ofAll_any (A : Option Addr) (n c : Nat) (xs : List Int) (w : World) (h : Sl w A n (xs.map I)) (hn : n ≤ maxLen) :
    Calls Try.prog 25 #[I 4, .slice A n c] w fun e w' => e = .returned (I (ofM 4 xs)) ∧ w = w' := by
  have H := Lib.hid h; clear h
  go_enter Try.func25, Try.ntmps25
  go_wp2_with (go_at_call 28; refine (gather_any A n c xs _ _ w H.out hn).mono ?_; rintro e w' ⟨rfl, rfl⟩)
  go_ret; exact ⟨rfl, rfl⟩
theorem ofAny_any (A : Option Addr) (n c : Nat) (xs : List Int) (w : World) (h : Sl w A n (xs.map I)) (hn : n ≤ maxLen) :
    Calls Try.prog 25 #[I 5, .slice A n c] w fun e w' => e = .returned (I (ofM 5 xs)) ∧ w = w' := by
  have H := Lib.hid h; clear h
  go_enter Try.func25, Try.ntmps25
  go_wp2_with (go_at_call 28; refine (gather_any A n c xs _ _ w H.out hn).mono ?_; rintro e w' ⟨rfl, rfl⟩)
  go_ret; exact ⟨rfl, rfl⟩
theorem ofNot_any (A : Option Addr) (n c : Nat) (x : Int) (xs : List Int) (w : World) (h : Sl w A n ((x :: xs).map I)) (hn : n ≤ maxLen) (hx : bad3 x = false) :
    Calls Try.prog 25 #[I 6, .slice A n c] w fun e w' => e = .returned (I (ofM 6 (x :: xs))) ∧ w = w' := by
  have hlen : 0 < n := by have := h.len; simp at this; omega
  obtain ⟨ad, y, rfl, hc, hy⟩ := h.at_ hlen
  simp at hy; subst hy
  have hc0 : w.cell? ad = some (I x) := hc
  have H := Lib.hid h; clear h hc
  have hx3 : x = 0 ∨ x = 1 ∨ x = 2 := by simp [bad3] at hx; omega
  clear hx
  have i0 : ∀ w, (Instr.index 45 (.agg #[.int .i64 1, .int .i64 0, .int .i64 2]) (.int .i64 0)).run Try.prog w = .ok (.int .i64 1) w := fun _ => by kernel_rfl
  have i1 : ∀ w, (Instr.index 45 (.agg #[.int .i64 1, .int .i64 0, .int .i64 2]) (.int .i64 1)).run Try.prog w = .ok (.int .i64 0) w := fun _ => by kernel_rfl
  have i2 : ∀ w, (Instr.index 45 (.agg #[.int .i64 1, .int .i64 0, .int .i64 2]) (.int .i64 2)).run Try.prog w = .ok (.int .i64 2) w := fun _ => by kernel_rfl
  rcases hx3 with rfl | rfl | rfl
  all_goals
    go_enter Try.func25, Try.ntmps25
    go_wp2
    go_ret; exact ⟨rfl, rfl⟩

theorem toldAll_any (A : Option Addr) (n c : Nat) (xs : List Int) (w : World) (h : Sl w A n (xs.map I)) (hn : n ≤ maxLen) :
    Calls Try.prog 17 #[I 4, .slice A n c] w fun e w' => e = .returned (Pr (I (toldM 4 xs).1) (I (toldM 4 xs).2)) ∧ w = w' := by
  have H := Lib.hid h; clear h
  by_cases hb : xs.any bad3 = true
  · have HM : Hid (checkM xs = 3 ∧ toldM 4 xs = (0, 3)) := by unfold Hid; simp only [checkM, toldM, hb]; exact ⟨rfl, rfl⟩
    clear hb
    go_enter Try.func17, Try.ntmps17
    go_wp2_with (go_at_call 11; refine (ternCheck_any A n c xs w H.out hn).mono ?_; rintro e w' ⟨rfl, rfl⟩; rw [HM.out.1])
    go_ret2; exact ⟨by rw [HM.out.2]; rfl, rfl⟩
  · have HM : Hid (checkM xs = 0 ∧ toldM 4 xs = (ofM 4 xs, 0)) := by unfold Hid; simp only [checkM, toldM, hb]; exact ⟨rfl, rfl⟩
    clear hb
    go_enter Try.func17, Try.ntmps17
    go_wp2_with (first | (go_at_call 11; refine (ternCheck_any A n c xs w H.out hn).mono ?_; rintro e w' ⟨rfl, rfl⟩; rw [HM.out.1]) | (go_at_call 25; refine (ofAll_any A n c xs w H.out hn).mono ?_; rintro e w' ⟨rfl, rfl⟩))
    go_ret2; exact ⟨by rw [HM.out.2]; rfl, rfl⟩

theorem ternAll_any (A : Option Addr) (n c : Nat) (xs : List Int) (w : World) (h : Sl w A n (xs.map I)) (hn : n ≤ maxLen) :
    Calls Try.prog 6 #[.slice A n c] w fun e w' => e = .returned (Pr (I (toldM 4 xs).1) (I (toldM 4 xs).2)) ∧ w = w' := by
  have H := Lib.hid h; clear h
  go_enter Try.func6, Try.ntmps6
  go_wp2_with (go_at_call 17; refine (toldAll_any A n c xs w H.out hn).mono ?_; rintro e w' ⟨rfl, rfl⟩)
  go_ret2; exact ⟨rfl, rfl⟩

theorem toldAny_any (A : Option Addr) (n c : Nat) (xs : List Int) (w : World) (h : Sl w A n (xs.map I)) (hn : n ≤ maxLen) :
    Calls Try.prog 17 #[I 5, .slice A n c] w fun e w' => e = .returned (Pr (I (toldM 5 xs).1) (I (toldM 5 xs).2)) ∧ w = w' := by
  have H := Lib.hid h; clear h
  by_cases hb : xs.any bad3 = true
  · have HM : Hid (checkM xs = 3 ∧ toldM 5 xs = (0, 3)) := by unfold Hid; simp only [checkM, toldM, hb]; exact ⟨rfl, rfl⟩
    clear hb
    go_enter Try.func17, Try.ntmps17
    go_wp2_with (go_at_call 11; refine (ternCheck_any A n c xs w H.out hn).mono ?_; rintro e w' ⟨rfl, rfl⟩; rw [HM.out.1])
    go_ret2; exact ⟨by rw [HM.out.2]; rfl, rfl⟩
  · have HM : Hid (checkM xs = 0 ∧ toldM 5 xs = (ofM 5 xs, 0)) := by unfold Hid; simp only [checkM, toldM, hb]; exact ⟨rfl, rfl⟩
    clear hb
    go_enter Try.func17, Try.ntmps17
    go_wp2_with (first | (go_at_call 11; refine (ternCheck_any A n c xs w H.out hn).mono ?_; rintro e w' ⟨rfl, rfl⟩; rw [HM.out.1]) | (go_at_call 25; refine (ofAny_any A n c xs w H.out hn).mono ?_; rintro e w' ⟨rfl, rfl⟩))
    go_ret2; exact ⟨by rw [HM.out.2]; rfl, rfl⟩

theorem ternAny_any (A : Option Addr) (n c : Nat) (xs : List Int) (w : World) (h : Sl w A n (xs.map I)) (hn : n ≤ maxLen) :
    Calls Try.prog 7 #[.slice A n c] w fun e w' => e = .returned (Pr (I (toldM 5 xs).1) (I (toldM 5 xs).2)) ∧ w = w' := by
  have H := Lib.hid h; clear h
  go_enter Try.func7, Try.ntmps7
  go_wp2_with (go_at_call 17; refine (toldAny_any A n c xs w H.out hn).mono ?_; rintro e w' ⟨rfl, rfl⟩)
  go_ret2; exact ⟨rfl, rfl⟩

theorem toldNot_any (A : Option Addr) (n c : Nat) (x : Int) (xs : List Int) (w : World) (h : Sl w A n ((x :: xs).map I)) (hn : n ≤ maxLen) :
    Calls Try.prog 17 #[I 6, .slice A n c] w fun e w' => e = .returned (Pr (I (toldM 6 (x :: xs)).1) (I (toldM 6 (x :: xs)).2)) ∧ w = w' := by
  have H := Lib.hid h; clear h
  by_cases hb : (x :: xs).any bad3 = true
  · have HM : Hid (checkM (x :: xs) = 3 ∧ toldM 6 (x :: xs) = (0, 3)) := by unfold Hid; simp only [checkM, toldM, hb]; exact ⟨rfl, rfl⟩
    clear hb
    go_enter Try.func17, Try.ntmps17
    go_wp2_with (go_at_call 11; refine (ternCheck_any A n c _ w H.out hn).mono ?_; rintro e w' ⟨rfl, rfl⟩; rw [HM.out.1])
    go_ret2; exact ⟨by rw [HM.out.2]; rfl, rfl⟩
  · have HM : Hid (checkM (x :: xs) = 0 ∧ toldM 6 (x :: xs) = (ofM 6 (x :: xs), 0)) := by unfold Hid; simp only [checkM, toldM, hb]; exact ⟨rfl, rfl⟩
    have HX : Hid (bad3 x = false) := by unfold Hid; simp at hb; exact hb.1
    clear hb
    go_enter Try.func17, Try.ntmps17
    go_wp2_with (first | (go_at_call 11; refine (ternCheck_any A n c _ w H.out hn).mono ?_; rintro e w' ⟨rfl, rfl⟩; rw [HM.out.1]) | (go_at_call 25; refine (ofNot_any A n c x xs w H.out hn HX.out).mono ?_; rintro e w' ⟨rfl, rfl⟩))
    go_ret2; exact ⟨by rw [HM.out.2]; rfl, rfl⟩

theorem ternNot_any (v : Int) (w : World) :
    Calls Try.prog 13 #[I v] w fun e w' => e = .returned (Pr (I (toldM 6 [v]).1) (I (toldM 6 [v]).2)) ∧ Ext w w' := by
  go_enter Try.func13, Try.ntmps13
  go_wp2_with (go_at_call 17; refine (toldNot_any _ 1 1 v [] _ (Sl.new w [I v] _) (by unfold maxLen; omega)).mono ?_; rintro e w' ⟨rfl, rfl⟩)
  go_ret2; exact ⟨rfl, (Ext.refl _).alloc _⟩

/-! the reference -/
theorem values_any (A : Option Addr) (n c : Nat) (xs : List Int) (w : World) (h : Sl w A n (xs.map I)) (hn : n ≤ maxLen) :
    Calls Try.prog 12 #[.slice A n c] w fun e w' => e = .returned (.bool (valuesM xs)) ∧ w = w' := by
  unfold maxLen at hn
  have H := Lib.hid h; clear h
  go_enter Try.func12, Try.ntmps12
  go_wp2
  go_loop [3] (fun i => ∃ (k : Nat), k ≤ n ∧ i = .int .i64 k ∧ valuesM (xs.drop k) = valuesM xs) (fun i => n - (intOf i).toNat)
  case atStart => exact ⟨0, Nat.zero_le _, rfl, rfl⟩
  case round =>
    obtain ⟨k, hk, rfl, hM⟩ := hrel
    by_cases hlt : k < n
    · obtain ⟨ad, x, rfl, hc, hd⟩ := H.out.next hlt
      rw [hd, valuesM, List.all_cons] at hM
      have HM := Lib.hid hM; clear hM hd
      by_cases hx : (decide (0 ≤ x) && decide (x ≤ 2)) = true
      · have HX := Lib.hid hx; clear hx
        go_wp2_with (go_at_call 22; refine (within_any _ _ _ _).mono ?_; rintro e w' ⟨rfl, rfl⟩; rw [HX.out])
        go_round
        case rel => exact ⟨k + 1, by omega, by go_num, by rw [← HM.out, HX.out]; simp [valuesM]⟩
        case measure => simp [intOf]; omega
      · have hx : (decide (0 ≤ x) && decide (x ≤ 2)) = false := by simpa using hx
        have HX := Lib.hid hx; clear hx
        go_wp2_with (go_at_call 22; refine (within_any _ _ _ _).mono ?_; rintro e w' ⟨rfl, rfl⟩; rw [HX.out])
        go_ret; exact ⟨ret_bool (by rw [← HM.out, HX.out]; rfl), rfl⟩
    · rw [H.out.drop_end hlt] at hM
      have HM := Lib.hid hM; clear hM
      go_wp2
      go_ret; exact ⟨ret_bool HM.out, rfl⟩

theorem count_any (A : Option Addr) (n c : Nat) (xs : List Int) (v : Int) (w : World) (h : Sl w A n (xs.map I)) (hn : n ≤ maxLen) :
    Calls Try.prog 26 #[.slice A n c, I v] w fun e w' => e = .returned (I (countM v xs 0)) ∧ w = w' := by
  unfold maxLen at hn
  have H := Lib.hid h; clear h
  go_enter Try.func26, Try.ntmps26
  go_wp2
  go_loop [5, 6] (fun o i => ∃ (k : Nat) (m : Int), k ≤ n ∧ i = .int .i64 k ∧ o = .int .i64 m ∧ 0 ≤ m ∧ m ≤ k ∧ countM v (xs.drop k) m = countM v xs 0) (fun _ i => n - (intOf i).toNat)
  case atStart => exact ⟨0, 0, Nat.zero_le _, rfl, rfl, by omega, by omega, rfl⟩
  case round =>
    obtain ⟨k, m, hk, rfl, rfl, hm0, hm1, hM⟩ := hrel
    by_cases hlt : k < n
    · obtain ⟨ad, x, rfl, hc, hd⟩ := H.out.next hlt
      rw [hd, countM] at hM
      have HM := Lib.hid hM; clear hM hd
      go_wp2
      all_goals
        go_round
        case rel => exact ⟨k + 1, _, by omega, by go_num, rfl, by omega, by omega, by rw [← HM.out]; simp_all⟩
        case measure => simp [intOf]; omega
    · rw [H.out.drop_end hlt] at hM
      have HM := Lib.hid hM; clear hM
      go_wp2
      go_ret; exact ⟨ret_int HM.out, rfl⟩

theorem refAll_any (A : Option Addr) (n c : Nat) (xs : List Int) (w : World) (h : Sl w A n (xs.map I)) (hn : n ≤ maxLen) :
    Calls Try.prog 18 #[.slice A n c] w fun e w' => e = .returned (I (allM xs)) ∧ w = w' := by
  have H := Lib.hid h; clear h
  generalize hM : allM xs = M
  unfold allM at hM
  generalize ha : countM 0 xs 0 = a at hM
  generalize hb : countM 2 xs 0 = b at hM
  have HA := Lib.hid ha; have HB := Lib.hid hb; have HM := Lib.hid hM; clear ha hb hM
  by_cases h1 : 0 < a <;> by_cases h2 : 0 < b
  all_goals
    go_enter Try.func18, Try.ntmps18
    go_wp2_with (go_at_call 26; refine (count_any A n c xs _ w H.out hn).mono ?_; rintro e w' ⟨rfl, rfl⟩; first | rw [HA.out] | rw [HB.out])
    go_ret; exact ⟨ret_int (by rw [← HM.out]; (repeat' split) <;> omega), rfl⟩
theorem refAny_any (A : Option Addr) (n c : Nat) (xs : List Int) (w : World) (h : Sl w A n (xs.map I)) (hn : n ≤ maxLen) :
    Calls Try.prog 19 #[.slice A n c] w fun e w' => e = .returned (I (anyM xs)) ∧ w = w' := by
  have H := Lib.hid h; clear h
  generalize hM : anyM xs = M
  unfold anyM at hM
  generalize ha : countM 1 xs 0 = a at hM
  generalize hb : countM 2 xs 0 = b at hM
  have HA := Lib.hid ha; have HB := Lib.hid hb; have HM := Lib.hid hM; clear ha hb hM
  by_cases h1 : 0 < a <;> by_cases h2 : 0 < b
  all_goals
    go_enter Try.func19, Try.ntmps19
    go_wp2_with (go_at_call 26; refine (count_any A n c xs _ w H.out hn).mono ?_; rintro e w' ⟨rfl, rfl⟩; first | rw [HA.out] | rw [HB.out])
    go_ret; exact ⟨ret_int (by rw [← HM.out]; (repeat' split) <;> omega), rfl⟩

theorem refNot_any (v : Int) (w : World) (h0 : 0 ≤ v) (h1 : v ≤ 2) :
    Calls Try.prog 23 #[I v] w fun e w' => e = .returned (I (rnotM v)) ∧ w = w' := by
  have hv : v = 0 ∨ v = 1 ∨ v = 2 := by omega
  rcases hv with rfl | rfl | rfl
  all_goals
    go_enter Try.func23, Try.ntmps23
    go_wp2
    go_ret; exact ⟨rfl, rfl⟩

theorem refLeq_any (A B : Option Addr) (n c d : Nat) (xs ys : List Int) (w : World) (h : Sl w A n (xs.map I)) (h' : Sl w B n (ys.map I)) (hn : n ≤ maxLen) :
    Calls Try.prog 24 #[.slice A n c, .slice B n d] w fun e w' => e = .returned (.bool (leqM xs ys)) ∧ ∃ m, w' = w.drewN m := by
  unfold maxLen at hn
  have H := Lib.hid h; clear h
  have H' := Lib.hid h'; clear h'
  go_enter Try.func24, Try.ntmps24
  go_wp2
  go_loopw [5] (fun i wr => ∃ (k m : Nat), k ≤ n ∧ i = .int .i64 k ∧ wr = w.drewN m ∧ leqM (xs.drop k) (ys.drop k) = leqM xs ys) (fun i _ => n - (intOf i).toNat)
  case atStart => exact ⟨0, 0, Nat.zero_le _, rfl, rfl, rfl⟩
  case round =>
    obtain ⟨k, m, hk, rfl, rfl, hM⟩ := hrel
    by_cases hlt : k < n
    · obtain ⟨ad, x, rfl, hc, hd⟩ := H.out.next hlt
      obtain ⟨ad', y, rfl, hc', hd'⟩ := H'.out.next hlt
      rw [hd, hd', leqM] at hM
      have HM := Lib.hid hM; clear hM hd hd'
      by_cases h2 : x = 2
      · have g2 : (x != 2) = false := by simpa using h2
        have H2 := Lib.hid h2; clear h2
        go_wp2_with fail
        go_quiet (fail)
        go_wp2
        go_roundw
        case rel => exact ⟨k + 1, _, by omega, by go_num, rfl, by rw [← HM.out]; simp [H2.out]⟩
        case measure => simp [intOf]; omega
      · have g2 : (x != 2) = true := by simpa using h2
        have H2 := Lib.hid h2; clear h2
        by_cases hxy : x = y
        · have g3 : (x != y) = false := by simpa using hxy
          have H3 := Lib.hid hxy; clear hxy
          go_wp2_with fail
          go_quiet (fail)
          go_wp2
          go_roundw
          case rel => exact ⟨k + 1, _, by omega, by go_num, rfl, by rw [← HM.out]; simp [H3.out]⟩
          case measure => simp [intOf]; omega
        · have g3 : (x != y) = true := by simpa using hxy
          have H3 := Lib.hid hxy; clear hxy
          go_wp2_with fail
          go_quiet (fail)
          go_wp2
          go_ret; exact ⟨ret_bool (by rw [← HM.out]; simp [H2.out, H3.out]), _, World.drewN_drewN _ _ _⟩
    · have hE : leqM [] (ys.drop k) = true := by cases ys.drop k <;> rfl
      rw [H.out.drop_end hlt, hE] at hM
      have HM := Lib.hid hM; clear hM hE
      go_wp2
      go_ret; exact ⟨ret_bool HM.out, _, rfl⟩

theorem refAllOf_any (A : Option Addr) (n c : Nat) (xs : List Int) (w : World) (h : Sl w A n (xs.map I)) (hn : n ≤ maxLen) :
    Calls Try.prog 8 #[.slice A n c] w fun e w' => e = .returned (Pr (I (if valuesM xs then allM xs else 0)) (I (if valuesM xs then 0 else 3))) ∧ w = w' := by
  have H := Lib.hid h; clear h
  generalize hv : valuesM xs = v
  have HV := Lib.hid hv; clear hv
  cases v
  all_goals
    go_enter Try.func8, Try.ntmps8
    go_wp2_with (first | (go_at_call 12; refine (values_any A n c xs w H.out hn).mono ?_; rintro e w' ⟨rfl, rfl⟩; rw [HV.out]) | (go_at_call 18; refine (refAll_any A n c xs w H.out hn).mono ?_; rintro e w' ⟨rfl, rfl⟩))
    go_ret2; exact ⟨rfl, rfl⟩
theorem refAnyOf_any (A : Option Addr) (n c : Nat) (xs : List Int) (w : World) (h : Sl w A n (xs.map I)) (hn : n ≤ maxLen) :
    Calls Try.prog 9 #[.slice A n c] w fun e w' => e = .returned (Pr (I (if valuesM xs then anyM xs else 0)) (I (if valuesM xs then 0 else 3))) ∧ w = w' := by
  have H := Lib.hid h; clear h
  generalize hv : valuesM xs = v
  have HV := Lib.hid hv; clear hv
  cases v
  all_goals
    go_enter Try.func9, Try.ntmps9
    go_wp2_with (first | (go_at_call 12; refine (values_any A n c xs w H.out hn).mono ?_; rintro e w' ⟨rfl, rfl⟩; rw [HV.out]) | (go_at_call 19; refine (refAny_any A n c xs w H.out hn).mono ?_; rintro e w' ⟨rfl, rfl⟩))
    go_ret2; exact ⟨rfl, rfl⟩
theorem refNotOf_any (x : Int) (w : World) :
    Calls Try.prog 15 #[I x] w fun e w' => e = .returned (Pr (I (if valuesM [x] then rnotM x else 0)) (I (if valuesM [x] then 0 else 3))) ∧ Ext w w' := by
  generalize hv : valuesM [x] = v
  have hx : v = true → 0 ≤ x ∧ x ≤ 2 := by rintro rfl; simpa [valuesM] using hv
  have HV := Lib.hid hv; clear hv
  have HX := Lib.hid hx; clear hx
  cases v
  · go_enter Try.func15, Try.ntmps15
    go_wp2_with fail
    refine (values_any _ 1 1 [x] _ (Sl.new w [I x] _) (by unfold maxLen; omega)).mono ?_; rintro e w' ⟨rfl, rfl⟩; rw [HV.out]
    go_wp2
    go_ret2; exact ⟨rfl, (Ext.refl _).alloc _⟩
  · go_enter Try.func15, Try.ntmps15
    go_wp2_with fail
    refine (values_any _ 1 1 [x] _ (Sl.new w [I x] _) (by unfold maxLen; omega)).mono ?_; rintro e w' ⟨rfl, rfl⟩; rw [HV.out]
    go_wp2_with fail
    refine (refNot_any x _ (HX.out trivial).1 (HX.out trivial).2).mono ?_; rintro e w' ⟨rfl, rfl⟩
    go_wp2
    go_ret2; exact ⟨rfl, (Ext.refl _).alloc _⟩

theorem refLeqOf_any (A B : Option Addr) (n m c d : Nat) (xs ys : List Int) (w : World) (h : Sl w A n (xs.map I)) (h' : Sl w B m (ys.map I)) (hn : n ≤ maxLen) (hm : m ≤ maxLen) :
    Calls Try.prog 16 #[.slice A n c, .slice B m d] w fun e w' => e = .returned (Pr (.bool (rleqOfM xs ys).1) (I (rleqOfM xs ys).2)) ∧ Ext w w' := by
  have hl : xs.length = n := h.len
  have hl' : ys.length = m := h'.len
  have H := Lib.hid h; clear h
  have H' := Lib.hid h'; clear h'
  generalize hR : rleqOfM xs ys = R
  unfold rleqOfM at hR
  rw [hl, hl'] at hR
  generalize hv : valuesM xs = v at hR
  generalize hu : valuesM ys = u at hR
  have HV := Lib.hid hv; clear hv
  have HU := Lib.hid hu; clear hu
  have HL := Lib.hid hl; have HL' := Lib.hid hl'; clear hl hl'
  by_cases hnm : n = m
  · subst hnm
    have HR := Lib.hid hR; clear hR
    cases v <;> cases u
    all_goals
      go_enter Try.func16, Try.ntmps16
      go_wp2_with fail
      refine (values_any A n c xs w H.out hn).mono ?_; rintro e w' ⟨rfl, rfl⟩; rw [HV.out]
      go_wp2_with fail
      first
        | (go_ret2; exact ⟨by rw [← HR.out]; rfl, Ext.refl _⟩)
        | (refine (values_any B n d ys w H'.out hn).mono ?_; rintro e w' ⟨rfl, rfl⟩; rw [HU.out]
           go_wp2_with fail
           first
             | (go_ret2; exact ⟨by rw [← HR.out]; rfl, Ext.refl _⟩)
             | (refine (refLeq_any A B n c d xs ys w H.out H'.out hn).mono ?_; rintro e w' ⟨rfl, m, rfl⟩
                go_wp2
                go_ret2; exact ⟨by rw [← HR.out]; simp, (Ext.refl _).drewN _⟩))
  · have HR := Lib.hid hR; clear hR
    have hne : ((n : Int) != (m : Int)) = true := by simp; omega
    cases v <;> cases u
    all_goals
      go_enter Try.func16, Try.ntmps16
      go_wp2_with fail
      refine (values_any A n c xs w H.out hn).mono ?_; rintro e w' ⟨rfl, rfl⟩; rw [HV.out]
      go_wp2_with fail
      first
        | (go_ret2; exact ⟨by rw [← HR.out]; simp, Ext.refl _⟩)
        | (refine (values_any B m d ys w H'.out hm).mono ?_; rintro e w' ⟨rfl, rfl⟩; rw [HU.out]
           go_wp2_with fail
           go_ret2; exact ⟨by rw [← HR.out]; simp [hnm], Ext.refl _⟩)
end Go.Proofs.Ytnlkidmlpipdmaa
