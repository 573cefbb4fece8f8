/- SameBools, SameInts: are two lists the same. -/
import Derived.Test.YtjagbnaacfhokaaChecked
import Derived.Test.YtjagbnaacfhokaaLib
namespace Go.Proofs.Ytjagbnaacfhokaa
set_option linter.unusedVariables false
set_option linter.unusedSimpArgs false
open Go.RowKit

def sameM {α : Type} [DecidableEq α] : List α → List α → Bool
  | x :: a, y :: b => decide (x = y) && sameM a b
  | _, _ => true
theorem sameM_eq {α : Type} [DecidableEq α] : ∀ a b : List α, a.length = b.length → sameM a b = decide (a = b)
  | [], [], _ => by simp [sameM]
  | [], _ :: _, h => by simp at h
  | _ :: _, [], h => by simp at h
  | x :: a, y :: b, h => by
    rw [sameM, sameM_eq a b (by simpa using h), Bool.eq_iff_iff]; simp

set_option maxHeartbeats 1000000 in
theorem sameInts_eq (A B : Option Addr) (n c d : Nat) (xs ys : List Int) (w : World) (h : Sl w A n (xs.map I)) (h' : Sl w B n (ys.map I)) (hn : n ≤ maxLen) :
    Calls Try.prog 33 #[.slice A n c, .slice B n d] w fun e w' => e = .returned (.bool (sameM xs ys)) ∧ ∃ m, w' = w.drewN m := by
  unfold maxLen at hn
  have H := Lib.hid h; clear h
  have H' := Lib.hid h'; clear h'
  go_enter Try.func33, Try.ntmps33
  go_wp2
  go_loopw [5] (fun i wr => ∃ (k m : Nat), k ≤ n ∧ i = .int .i64 k ∧ wr = w.drewN m ∧ sameM (xs.drop k) (ys.drop k) = sameM xs ys) (fun i _ => n - (intOf i).toNat)
  case atStart => exact ⟨0, 0, Nat.zero_le _, rfl, rfl, rfl⟩
  case round =>
    obtain ⟨k, m, hk, rfl, rfl, hM⟩ := hrel
    by_cases hlt : k < n
    · obtain ⟨b, off, x, rfl, hc, hd⟩ := H.out.next hlt
      obtain ⟨b', off', y, rfl, hc', hd'⟩ := H'.out.next hlt
      rw [hd, hd', sameM] at hM
      have HM := Lib.hid hM; clear hM hd hd'
      by_cases hxy : x = y
      · have g3 : (x != y) = false := by simpa using hxy
        have H3 := Lib.hid hxy; clear hxy
        go_wp2_with fail
        go_quiet (fail)
        go_wp2
        go_roundw
        case rel => exact ⟨k + 1, _, by omega, by go_num, rfl, by rw [← HM.out]; simp [H3.out]⟩
        case measure => simp [intOf]; omega
      · have g3 : (x != y) = true := by simpa using hxy
        have H3 := Lib.hid hxy; clear hxy
        go_wp2_with fail
        go_quiet (fail)
        go_wp2
        go_ret; exact ⟨ret_bool (by rw [← HM.out]; simp [H3.out]), _, World.drewN_drewN _ _ _⟩
    · have hE : sameM ([] : List Int) (ys.drop k) = true := by cases ys.drop k <;> rfl
      rw [H.out.drop_end hlt, hE] at hM
      have HM := Lib.hid hM; clear hM hE
      go_wp2
      go_ret; exact ⟨ret_bool HM.out, _, rfl⟩

theorem sameInts_any (A B : Option Addr) (n m c d : Nat) (xs ys : List Int) (w : World) (h : Sl w A n (xs.map I)) (h' : Sl w B m (ys.map I)) (hn : n ≤ maxLen) (hm : m ≤ maxLen) :
    Calls Try.prog 33 #[.slice A n c, .slice B m d] w fun e w' => e = .returned (.bool (decide (xs = ys))) ∧ ∃ m, w' = w.drewN m := by
  by_cases hnm : n = m
  · subst hnm
    rw [← sameM_eq xs ys (by rw [h.len, h'.len])]
    exact sameInts_eq A B n c d xs ys w h h' hn
  · have hf : decide (xs = ys) = false := by
      simp; rintro rfl; exact hnm (h.len.symm.trans h'.len)
    rw [hf]
    have g : ((n : Int) != (m : Int)) = true := by simp; omega
    have H := Lib.hid h; have H' := Lib.hid h'; have HN := Lib.hid hnm
    clear h h' hnm hf
    go_enter Try.func33, Try.ntmps33
    go_wp2
    go_ret; exact ⟨rfl, 0, rfl⟩

set_option maxHeartbeats 1000000 in
theorem sameBools_eq (A B : Option Addr) (n c d : Nat) (xs ys : List Bool) (w : World) (h : Sl w A n (xs.map Bv)) (h' : Sl w B n (ys.map Bv)) (hn : n ≤ maxLen) :
    Calls Try.prog 29 #[.slice A n c, .slice B n d] w fun e w' => e = .returned (.bool (sameM xs ys)) ∧ ∃ m, w' = w.drewN m := by
  unfold maxLen at hn
  have H := Lib.hid h; clear h
  have H' := Lib.hid h'; clear h'
  go_enter Try.func29, Try.ntmps29
  go_wp2
  go_loopw [5] (fun i wr => ∃ (k m : Nat), k ≤ n ∧ i = .int .i64 k ∧ wr = w.drewN m ∧ sameM (xs.drop k) (ys.drop k) = sameM xs ys) (fun i _ => n - (intOf i).toNat)
  case atStart => exact ⟨0, 0, Nat.zero_le _, rfl, rfl, rfl⟩
  case round =>
    obtain ⟨k, m, hk, rfl, rfl, hM⟩ := hrel
    by_cases hlt : k < n
    · obtain ⟨b, off, x, rfl, hc, hd⟩ := H.out.next hlt
      obtain ⟨b', off', y, rfl, hc', hd'⟩ := H'.out.next hlt
      rw [hd, hd', sameM] at hM
      have HM := Lib.hid hM; clear hM hd hd'
      cases x <;> cases y
      all_goals
        go_wp2_with fail
        go_quiet (fail)
        go_wp2
        first
          | (go_roundw
             case rel => exact ⟨k + 1, _, by omega, by go_num, rfl, by rw [← HM.out]; simp⟩
             case measure => simp [intOf]; omega)
          | (go_ret; exact ⟨ret_bool (by rw [← HM.out]; simp), _, World.drewN_drewN _ _ _⟩)
    · have hE : sameM ([] : List Bool) (ys.drop k) = true := by cases ys.drop k <;> rfl
      rw [H.out.drop_end hlt, hE] at hM
      have HM := Lib.hid hM; clear hM hE
      go_wp2
      go_ret; exact ⟨ret_bool HM.out, _, rfl⟩

theorem sameBools_any (A B : Option Addr) (n m c d : Nat) (xs ys : List Bool) (w : World) (h : Sl w A n (xs.map Bv)) (h' : Sl w B m (ys.map Bv)) (hn : n ≤ maxLen) (hm : m ≤ maxLen) :
    Calls Try.prog 29 #[.slice A n c, .slice B m d] w fun e w' => e = .returned (.bool (decide (xs = ys))) ∧ ∃ m, w' = w.drewN m := by
  by_cases hnm : n = m
  · subst hnm
    rw [← sameM_eq xs ys (by rw [h.len, h'.len])]
    exact sameBools_eq A B n c d xs ys w h h' hn
  · have hf : decide (xs = ys) = false := by
      simp; rintro rfl; exact hnm (h.len.symm.trans h'.len)
    rw [hf]
    have g : ((n : Int) != (m : Int)) = true := by simp; omega
    have H := Lib.hid h; have H' := Lib.hid h'; have HN := Lib.hid hnm
    clear h h' hnm hf
    go_enter Try.func29, Try.ntmps29
    go_wp2
    go_ret; exact ⟨rfl, 0, rfl⟩

theorem within_any' (n lo hi : Int) (w : World) :
    Calls Try.prog 110 #[I n, I lo, I hi] w fun e w' => e = .returned (.bool (decide (lo ≤ n) && decide (n ≤ hi))) ∧ w = w' := by
  go_enter Try.func110, Try.ntmps110
  go_wp2
  all_goals go_ret
  all_goals exact ⟨ret_bool (by simp <;> omega), rfl⟩
end Go.Proofs.Ytjagbnaacfhokaa
