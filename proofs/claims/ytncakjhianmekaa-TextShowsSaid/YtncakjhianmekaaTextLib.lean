/- Letters of signs, by the program and by the reference. -/
import Derived.Test.YtncakjhianmekaaChecked
import Derived.Test.YtncakjhianmekaaLib
import Derived.Test.YtncakjhianmekaaTextPlain
import Derived.Laws.IdiomStrings
namespace Go.Proofs.Ytncakjhianmekaa
set_option linter.unusedVariables false
set_option linter.unusedSimpArgs false
open Go.RowKit

/-- A string value of bytes. -/
abbrev S (l : List UInt8) : Value := .string ⟨l.toArray⟩
theorem letter_any (f : Nat) (g : Int) (hf : f = 65 ∨ f = 120) (hg : g = 0 ∨ g = 1 ∨ g = 2) (w : World) :
    Calls Try.prog 24 #[.int .i32 f, I g] w fun e w' => e = .returned (S [letter f g]) ∧ w = w' := by
  rcases hf with rfl | rfl <;> rcases hg with rfl | rfl | rfl
  all_goals
    go_enter Try.func24, Try.ntmps24
    go_wp2
    go_ret
    exact ⟨by kernel_rfl, rfl⟩
theorem rsign_any (f : Nat) (g : Int) (hf : f = 65 ∨ f = 120) (hg : g = 0 ∨ g = 1 ∨ g = 2) (w : World) :
    Calls Try.prog 16 #[.int .u8 f, I g] w fun e w' => e = .returned (S [letter f g]) ∧ Ext w w' := by
  have cv : ∀ (b : UInt8) (q : Int), (b.toNat : Int) = q → (convert 54 9 (.slice (some ⟨w.heap.size, 0, none⟩) 1 1)).run Try.prog (w.alloc (.cells #[.int .u8 q] 5)) = .ok (.string ⟨#[b]⟩) (w.alloc (.cells #[.int .u8 q] 5)) := fun b q hq => by
    subst hq
    exact run_convert_bytes_back (P := Try.prog) _ 54 9 5 ⟨w.heap.size, 0, none⟩ 1 [b] Try.underlying54 Try.underlying5 Try.underlying9 (fun j hj => by
      obtain rfl : j = 0 := by simpa using hj
      rw [show (⟨w.heap.size, 0, none⟩ : Addr).add 0 = ⟨w.heap.size, 0, none⟩ from rfl, World.cell?_alloc_new]; rfl)
  have c1 := cv 65 65 rfl; have c2 := cv 66 66 rfl; have c3 := cv 67 67 rfl; have c4 := cv 120 120 rfl; have c5 := cv 121 121 rfl; have c6 := cv 122 122 rfl
  clear cv
  rcases hf with rfl | rfl <;> rcases hg with rfl | rfl | rfl
  all_goals
    go_enter Try.func16, Try.ntmps16
    go_wp2
    go_ret
    exact ⟨by kernel_rfl, (Ext.refl _).alloc _⟩
end Go.Proofs.Ytncakjhianmekaa
