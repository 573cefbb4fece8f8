/- The knot with an order: its eighth gate's args turned. -/
import Derived.Test.YtjagbnaacfhokaaLoose
namespace Go.Proofs.Ytjagbnaacfhokaa
set_option linter.unusedVariables false
set_option linter.unusedSimpArgs false
open Go.RowKit

theorem knotC' {w : World} {os rest : List Obj} {x y : List Int} {A B : Option Addr} {nx : Int} (ho : os = knotOs w.heap.size (knotGs w.heap.size x A y B) nx ++ rest)
    (hx : x.length ≤ 1000 ∧ Sl (allocs w os) A x.length (x.map I)) (hy : y.length ≤ 1000 ∧ Sl (allocs w os) B y.length (y.map I)) :
    NetC (allocs w os) 1 (some ⟨w.heap.size + 8, 0, none⟩) 10 10 (some ⟨w.heap.size + 9, 0, none⟩) 1 1 (some ⟨w.heap.size + 10, 0, none⟩) 2 2 (knotN x y nx) := by
  have hl : ∀ (j : Nat) (cs : List Int) (T : TypeId), os[j]? = some (.cells (cs.map I).toArray T) → Sl (allocs w os) (some ⟨w.heap.size + j, 0, none⟩) cs.length (cs.map I) := fun j cs T h => by
    have := Sl.lit (w := w) (cs := cs.map I) h rfl; simpa using this
  refine ⟨rfl, ?_, ?_, ?_, ⟨by decide, ml_small (by decide)⟩, ⟨by decide, ml_small (by decide)⟩, ⟨by decide, ml_small (by decide)⟩⟩
  · refine SlG.lit (gs := knotGs w.heap.size x A y B) (T := 34) (fr := (0, 0)) (by subst ho; rfl) rfl ?_
    intro p hp
    simp only [knotGs, List.mem_cons, List.not_mem_nil, or_false] at hp
    rcases hp with rfl | rfl | rfl | rfl | rfl | rfl | rfl | rfl | rfl | rfl
    · exact ⟨ml_small (by decide), Sl.nil _ _⟩
    · exact ⟨ml_small (by decide), Sl.nil _ _⟩
    · exact ⟨ml_small hx.1, hx.2⟩
    · exact ⟨ml_small (by simp), hl 2 [0] 3 (by subst ho; rfl)⟩
    · exact ⟨ml_small (by simp), hl 3 [0, 2] 3 (by subst ho; rfl)⟩
    · exact ⟨ml_small (by simp), hl 4 [3, 1] 3 (by subst ho; rfl)⟩
    · exact ⟨ml_small (by simp), hl 5 [4, 5] 3 (by subst ho; rfl)⟩
    · exact ⟨ml_small (by simp), hl 6 [6, 8] 3 (by subst ho; rfl)⟩
    · exact ⟨ml_small hy.1, hy.2⟩
    · exact ⟨ml_small (by decide), Sl.nil _ _⟩
  · exact Sl2.lit (f := RB) (g := RN) (xs := [⟨false, nx⟩]) (T := 78) (fr := (0, 0)) (by subst ho; rfl) rfl
  · exact hl 10 [7, 1] 3 (by subst ho; rfl)
def knotBox (n : Nat) : Obj := .cells #[I 1, .slice (some ⟨n + 8, 0, none⟩) 10 10, .slice (some ⟨n + 9, 0, none⟩) 1 1, .slice (some ⟨n + 10, 0, none⟩) 2 2] 26
def tiedW (w : World) : World := allocs w (knotOs w.heap.size (knotGs w.heap.size [1] (A1 w.heap.size) [9] (some ⟨w.heap.size + 12, 0, none⟩)) 6 ++ [knotBox w.heap.size, .cells #[I 9] 3])
abbrev tiedM : NetM := knotN [1] [9] 6
def tied0 (w : World) : World := ((knotW w).alloc (knotBox w.heap.size)).alloc (.cells #[I 9] 3)
theorem tied0_eq (w : World) : tied0 w = allocs w (knotOs w.heap.size (knotGs w.heap.size [1] (A1 w.heap.size) [7, 9] (A7 w.heap.size)) 6 ++ [knotBox w.heap.size, .cells #[I 9] 3]) := rfl
theorem tied_set (w : World) : (tied0 w).setCell ⟨w.heap.size + 8, 26, none⟩ (.slice (some ⟨w.heap.size + 12, 0, none⟩) 1 1) = tiedW w := by
  rw [tied0_eq]
  refine (allocs_set (j := 8) rfl 26 (.slice (some ⟨w.heap.size + 12, 0, none⟩) 1 1) rfl).trans (congrArg (allocs w) ?_)
  rw [List.set_append_left _ _ (by simp [knotOs])]
  exact congrArg (· ++ [knotBox w.heap.size, .cells #[I 9] 3]) rfl
theorem tied_cell (w : World) : (tied0 w).cell? ⟨w.heap.size + 8, 26, none⟩ = some (.slice (some ⟨w.heap.size + 7, 0, none⟩) 2 2) := by
  rw [tied0_eq]; exact (allocs_cell (j := 8) rfl 26).trans rfl
theorem tied_free (w : World) : (tied0 w).frozen? ⟨w.heap.size + 8, 26, none⟩ = false := by
  rw [tied0_eq]; exact allocs_free (j := 8) rfl 26
theorem tiedW_ext (w : World) : Ext w (tiedW w) := allocs_ext _ _
theorem tiedW_size (w : World) : (tiedW w).heap.size = w.heap.size + 13 := by unfold tiedW; rw [allocs_size]; rfl
theorem tiedC (w : World) : NetC (tiedW w) 1 (some ⟨w.heap.size + 8, 0, none⟩) 10 10 (some ⟨w.heap.size + 9, 0, none⟩) 1 1 (some ⟨w.heap.size + 10, 0, none⟩) 2 2 tiedM :=
  knotC' rfl ⟨by decide, Sl.lit (j := 1) (cs := [I 1]) (T := 3) (fr := (0, 0)) rfl rfl⟩ ⟨by decide, Sl.lit (j := 12) (cs := [I 9]) (T := 3) (fr := (0, 0)) rfl rfl⟩
theorem tiedBox (w : World) : NetBox (tiedW w) (w.heap.size + 11) 1 (some ⟨w.heap.size + 8, 0, none⟩) 10 10 (some ⟨w.heap.size + 9, 0, none⟩) 1 1 (some ⟨w.heap.size + 10, 0, none⟩) 2 2 := by
  unfold NetBox tiedW
  exact ⟨(allocs_cell (j := 11) rfl 0).trans rfl, (allocs_cell (j := 11) rfl 1).trans rfl, (allocs_cell (j := 11) rfl 2).trans rfl, (allocs_cell (j := 11) rfl 3).trans rfl⟩
end Go.Proofs.Ytjagbnaacfhokaa
