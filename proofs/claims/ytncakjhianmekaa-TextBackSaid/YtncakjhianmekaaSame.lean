/- SameBools, SameInts: are two lists the same. -/
import Derived.Test.YtncakjhianmekaaChecked
import Derived.Test.YtncakjhianmekaaLib
namespace Go.Proofs.Ytncakjhianmekaa
set_option linter.unusedVariables false
set_option linter.unusedSimpArgs false
open Go.RowKit

def sameM {α : Type} [DecidableEq α] : List α → List α → Bool
  | x :: a, y :: b => decide (x = y) && sameM a b
  | _, _ => true
theorem sameM_eq {α : Type} [DecidableEq α] : ∀ a b : List α, a.length = b.length → sameM a b = decide (a = b)
  | [], [], _ => by simp [sameM]
  | [], _ :: _, h => by simp at h
  | _ :: _, [], h => by simp at h
  | x :: a, y :: b, h => by
    rw [sameM, sameM_eq a b (by simpa using h), Bool.eq_iff_iff]; simp

theorem within_any' (n lo hi : Int) (w : World) :
    Calls Try.prog 14 #[I n, I lo, I hi] w fun e w' => e = .returned (.bool (decide (lo ≤ n) && decide (n ≤ hi))) ∧ w = w' := by
  go_enter Try.func14, Try.ntmps14
  go_wp2
  all_goals go_ret
  all_goals exact ⟨ret_bool (by simp <;> omega), rfl⟩
end Go.Proofs.Ytncakjhianmekaa
