/- net.Needs, and the reference's NeedsError, NeedsOf walked. -/
import Derived.Test.YtlafiddfplhafaaFa19
import Derived.Test.YtlafiddfplhafaaFa06
import Derived.Test.YtlafiddfplhafaaFa01
namespace Go.Proofs.Ytlafiddfplhafaa
set_option linter.unusedVariables false
set_option linter.unusedSimpArgs false
set_option linter.unusedVariables false
set_option linter.unusedSimpArgs false
open Go.RowKit
section
variable (i : Int) (GA : Option Addr) (gn gc : Nat) (RA : Option Addr) (rn rc : Nat) (OA : Option Addr) (on oc : Nat) (N : NetM) (A : Option Addr) (n c : Nat) (l : List Int) (w : World)
end
end Go.Proofs.Ytlafiddfplhafaa
/- The reference's NeedsOf walked. -/
namespace Go.Proofs.Ytlafiddfplhafaa
set_option linter.unusedVariables false
set_option linter.unusedSimpArgs false
open Go.RowKit
end Go.Proofs.Ytlafiddfplhafaa
/- Memory that is laid as literals, one block behind the other. No program in sight. -/
namespace Go.Proofs.Ytlafiddfplhafaa
set_option linter.unusedVariables false
set_option linter.unusedSimpArgs false
open Go.RowKit
def allocs (w : World) (os : List Obj) : World := os.foldl World.alloc w
theorem allocs_ext (os : List Obj) : ∀ w : World, Ext w (allocs w os) := by
  induction os with
  | nil => intro w; exact Ext.refl w
  | cons o os ih => intro w; exact ((Ext.refl w).alloc o).trans (ih (w.alloc o))
theorem allocs_heap (os : List Obj) : ∀ (w : World) (j : Nat), (allocs w os).heap[w.heap.size + j]? = os[j]? := by
  induction os with
  | nil => intro w j; show w.heap[w.heap.size + j]? = _; rw [Array.getElem?_eq_none (by omega)]; rfl
  | cons o os ih =>
    intro w j
    have hs : (w.alloc o).heap.size = w.heap.size + 1 := World.size_alloc ..
    cases j with
    | zero =>
      have hb : (allocs (w.alloc o) os).heap[w.heap.size]? = (w.alloc o).heap[w.heap.size]? := (allocs_ext os (w.alloc o)).block w.heap.size (by omega)
      show (allocs (w.alloc o) os).heap[w.heap.size]? = some o
      rw [hb]; exact heap_alloc_new w o
    | succ j =>
      have := ih (w.alloc o) j
      rw [hs] at this
      show (allocs (w.alloc o) os).heap[w.heap.size + (j + 1)]? = os[j]?
      rw [← this]; congr 1; omega
theorem allocs_cell {w : World} {os : List Obj} {j : Nat} {cs : Array Value} {T : TypeId} {fr : Nat × Nat} (h : os[j]? = some (.cells cs T fr)) (off : Nat) : (allocs w os).cell? ⟨w.heap.size + j, off, none⟩ = cs[off]? := by
  have := allocs_heap os w j
  rw [h] at this
  exact cell_of_row _ _ _ _ _ _ this
theorem Sl.lit {w : World} {os : List Obj} {j : Nat} {cs : List Value} {T : TypeId} {fr : Nat × Nat} (h : os[j]? = some (.cells cs.toArray T fr)) {m : Nat} (hm : m = w.heap.size + j) : Sl (allocs w os) (some ⟨m, 0, none⟩) cs.length cs :=
  ⟨rfl, fun k u hu => ⟨m, 0, rfl, by subst hm; rw [allocs_cell h, Nat.zero_add]; simpa using hu⟩⟩
end Go.Proofs.Ytlafiddfplhafaa
