/- Asked and Step; the reference's StepError. -/
import Derived.Test.YtlafiddfplhafaaFc05
import Derived.Test.YtlafiddfplhafaaFc07
import Derived.Test.YtlafiddfplhafaaFc04
namespace Go.Proofs.Ytlafiddfplhafaa
set_option linter.unusedVariables false
set_option linter.unusedSimpArgs false
set_option linter.unusedVariables false
set_option linter.unusedSimpArgs false
open Go.RowKit
section
variable (i : Int) (GA : Option Addr) (gn gc : Nat) (RA : Option Addr) (rn rc : Nat) (OA : Option Addr) (on oc : Nat) (N : NetM) (RB : Option Addr) (pn pc : Nat) (IA : Option Addr) (jn jc : Nat) (regs ins : List Int) (w : World)
end
end Go.Proofs.Ytlafiddfplhafaa
/- The reference's worth of a gate. -/
namespace Go.Proofs.Ytlafiddfplhafaa
set_option linter.unusedVariables false
set_option linter.unusedSimpArgs false
open Go.RowKit
end Go.Proofs.Ytlafiddfplhafaa
/- The reference's settled and StepOf. -/
namespace Go.Proofs.Ytlafiddfplhafaa
set_option linter.unusedVariables false
set_option linter.unusedSimpArgs false
open Go.RowKit
def mixV (a : List Int) (k n : Nat) : List Int := a.take k ++ List.replicate (n - k) 0
theorem mixV_set {a : List Int} {k n : Nat} {x : Int} (h : k < n) (hx : a[k]? = some x) : (mixV a k n).set k x = mixV a (k + 1) n := by
  unfold mixV
  have hk : k < a.length := (List.getElem?_eq_some_iff.1 hx).1
  rw [List.set_append_right _ _ (by simp; omega)]
  have e : k - (a.take k).length = 0 := by simp; omega
  rw [e, show n - k = (n - (k + 1)) + 1 from by omega, List.replicate_succ, List.set_cons_zero, List.take_add_one, hx]
  simp
theorem mixV_end {a : List Int} {n : Nat} (h : a.length = n) : mixV a n n = a := by
  unfold mixV; rw [List.take_of_length_le (by omega)]; simp
end Go.Proofs.Ytlafiddfplhafaa
