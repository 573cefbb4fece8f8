/- Aids for a row's closed facts in a large translation: piece by piece, and 'recurses' by one witness. -/
import Derived.Test.YtjagbnaacfhokaaChecked
import Derived.ProofKit
namespace Go.Proofs.Ytjagbnaacfhokaa
set_option linter.unusedVariables false
set_option linter.unusedSimpArgs false
theorem band {a b : Bool} (h : a = true) (k : b = true) : (a && b) = true := by rw [h, k]; rfl
theorem recurses_of {P : Program} {f : FuncId} (g h : FuncId) (h1 : (P.closure f).contains g = true) (h2 : ((P.funcs[g]?).elim [] P.leadsTo).contains h = true) (h3 : (P.closure h).contains g = true) : P.recurses f = true := by
  unfold Program.recurses
  rw [Bool.or_eq_true]; right
  rw [List.any_eq_true]
  refine ⟨g, by simpa using h1, ?_⟩
  rw [List.any_eq_true]
  exact ⟨h, by simpa using h2, h3⟩
end Go.Proofs.Ytjagbnaacfhokaa
