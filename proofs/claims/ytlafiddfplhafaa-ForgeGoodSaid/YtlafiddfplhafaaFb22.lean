/- The two nets of the laws, as contracts. -/
import Derived.Test.YtlafiddfplhafaaFb13
import Derived.Test.YtlafiddfplhafaaFb20
import Derived.Test.YtlafiddfplhafaaFb21
namespace Go.Proofs.Ytlafiddfplhafaa
set_option linter.unusedVariables false
set_option linter.unusedSimpArgs false
set_option linter.unusedVariables false
set_option linter.unusedSimpArgs false
open Go.RowKit
end Go.Proofs.Ytlafiddfplhafaa
/- What must be in any case of eval. -/
namespace Go.Proofs.Ytlafiddfplhafaa
set_option linter.unusedVariables false
set_option linter.unusedSimpArgs false
open Go.RowKit
section
variable {i : Int} {GA : Option Addr} {gn gc : Nat} {RA : Option Addr} {rn rc : Nat} {OA : Option Addr} {on oc : Nat} {N : NetM} {w : World}
end
end Go.Proofs.Ytlafiddfplhafaa
/- What must be in any case of tick. -/
namespace Go.Proofs.Ytlafiddfplhafaa
set_option linter.unusedVariables false
set_option linter.unusedSimpArgs false
open Go.RowKit
section
variable {i : Int} {GA : Option Addr} {gn gc : Nat} {RA : Option Addr} {rn rc : Nat} {OA : Option Addr} {on oc : Nat} {N : NetM} {w : World}
theorem rows_lit (A B : Option Addr) (n c d : Nat) (xs : List (List Int)) (Q : World) (h : SlRows Q A n xs) (h' : SlRows Q B n xs) (hn : n ≤ 1000) : Calls Try.prog 13 #[.slice A n c, .slice B n d] Q fun e w' => e = .returned (.bool true) ∧ Ext Q w' :=
  (sameRows_any A B n n c d xs xs Q h h' (ml_small hn) (ml_small hn)).mono fun e w' ⟨he, hx⟩ => ⟨by rw [he]; simp, hx⟩
end
end Go.Proofs.Ytlafiddfplhafaa
