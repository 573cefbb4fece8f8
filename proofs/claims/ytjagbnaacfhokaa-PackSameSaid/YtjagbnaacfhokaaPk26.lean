/- The two nets of the laws, as contracts. -/
import Derived.Test.YtjagbnaacfhokaaPk25
namespace Go.Proofs.Ytjagbnaacfhokaa
set_option linter.unusedVariables false
set_option linter.unusedSimpArgs false
open Go.RowKit

theorem knot_ok (w : World) : Calls Try.prog 74 #[] w fun e w' => ∃ n, e = .returned (knotV n) ∧ NetC w' 1 (some ⟨n + 8, 0, none⟩) 10 10 (some ⟨n + 9, 0, none⟩) 1 1 (some ⟨n + 10, 0, none⟩) 2 2 knotM ∧ Ext w w' :=
  (knot_any w).mono fun e w' ⟨h1, h2⟩ => ⟨w.heap.size, h1, by rw [← h2]; exact knotC0 w, by rw [← h2]; exact knotW_ext w⟩
def looseGs (n : Nat) : List GateL := [(⟨2, 0, []⟩, none), (⟨5, 0, [0, 2]⟩, some ⟨n + 1, 0, none⟩), (⟨4, 0, [1]⟩, some ⟨n + 2, 0, none⟩)]
def looseOs (n : Nat) : List Obj :=
  [.cells #[I 1, .slice (some ⟨n + 3, 0, none⟩) 3 3, .slice none 0 0, .slice (some ⟨n + 4, 0, none⟩) 1 1] 26,
    .cells #[I 0, I 2] 3, .cells #[I 1] 3, .cells (gateCells (looseGs n)).toArray 34, .cells #[I 1] 3]
def looseM : NetM := ⟨1, [⟨2, 0, []⟩, ⟨5, 0, [0, 2]⟩, ⟨4, 0, [1]⟩], [], [1]⟩
abbrev looseV (n : Nat) : Value := netV 1 (some ⟨n + 3, 0, none⟩) 3 3 none 0 0 (some ⟨n + 4, 0, none⟩) 1 1
theorem looseC (w : World) : NetC (allocs w (looseOs w.heap.size)) 1 (some ⟨w.heap.size + 3, 0, none⟩) 3 3 none 0 0 (some ⟨w.heap.size + 4, 0, none⟩) 1 1 looseM := by
  have hl : ∀ (j : Nat) (cs : List Int) (T : TypeId), (looseOs w.heap.size)[j]? = some (.cells (cs.map I).toArray T) → Sl (allocs w (looseOs w.heap.size)) (some ⟨w.heap.size + j, 0, none⟩) cs.length (cs.map I) := fun j cs T h => by
    have := Sl.lit (w := w) (cs := cs.map I) h rfl; simpa using this
  refine ⟨rfl, ?_, Sl2.nil _ _ _ _, ?_, ⟨by decide, ml_small (by decide)⟩, ⟨by decide, ml_small (by decide)⟩, ⟨by decide, ml_small (by decide)⟩⟩
  · refine SlG.lit (j := 3) (gs := looseGs w.heap.size) (T := 34) (fr := (0, 0)) rfl rfl ?_
    intro p hp
    simp only [looseGs, List.mem_cons, List.not_mem_nil, or_false] at hp
    rcases hp with rfl | rfl | rfl
    · exact ⟨ml_small (by decide), Sl.nil _ _⟩
    · exact ⟨ml_small (by simp), hl 1 [0, 2] 3 rfl⟩
    · exact ⟨ml_small (by simp), hl 2 [1] 3 rfl⟩
  · exact hl 4 [1] 3 rfl
theorem loose_any (w : World) : Calls Try.prog 78 #[] w fun e w' => e = .returned (looseV w.heap.size) ∧ allocs w (looseOs w.heap.size) = w' := by
  go_enter Try.func78, Try.ntmps78
  go_wp2
  exact bodyPost_ret (v := looseV w.heap.size) (by simp [results, Try.results78, go_sem]) rfl ⟨rfl, rfl⟩
theorem loose_ok (w : World) : Calls Try.prog 78 #[] w fun e w' => ∃ n, e = .returned (looseV n) ∧ NetC w' 1 (some ⟨n + 3, 0, none⟩) 3 3 none 0 0 (some ⟨n + 4, 0, none⟩) 1 1 looseM ∧ Ext w w' :=
  (loose_any w).mono fun e w' ⟨h1, h2⟩ => ⟨w.heap.size, h1, by rw [← h2]; exact looseC w, by rw [← h2]; exact allocs_ext _ _⟩
end Go.Proofs.Ytjagbnaacfhokaa
/- The knot with an order: its eighth gate's args turned. -/
namespace Go.Proofs.Ytjagbnaacfhokaa
set_option linter.unusedVariables false
set_option linter.unusedSimpArgs false
open Go.RowKit

theorem knotC' {w : World} {os rest : List Obj} {x y : List Int} {A B : Option Addr} {nx : Int} (ho : os = knotOs w.heap.size (knotGs w.heap.size x A y B) nx ++ rest)
    (hx : x.length ≤ 1000 ∧ Sl (allocs w os) A x.length (x.map I)) (hy : y.length ≤ 1000 ∧ Sl (allocs w os) B y.length (y.map I)) :
    NetC (allocs w os) 1 (some ⟨w.heap.size + 8, 0, none⟩) 10 10 (some ⟨w.heap.size + 9, 0, none⟩) 1 1 (some ⟨w.heap.size + 10, 0, none⟩) 2 2 (knotN x y nx) := by
  have hl : ∀ (j : Nat) (cs : List Int) (T : TypeId), os[j]? = some (.cells (cs.map I).toArray T) → Sl (allocs w os) (some ⟨w.heap.size + j, 0, none⟩) cs.length (cs.map I) := fun j cs T h => by
    have := Sl.lit (w := w) (cs := cs.map I) h rfl; simpa using this
  refine ⟨rfl, ?_, ?_, ?_, ⟨by decide, ml_small (by decide)⟩, ⟨by decide, ml_small (by decide)⟩, ⟨by decide, ml_small (by decide)⟩⟩
  · refine SlG.lit (gs := knotGs w.heap.size x A y B) (T := 34) (fr := (0, 0)) (by subst ho; rfl) rfl ?_
    intro p hp
    simp only [knotGs, List.mem_cons, List.not_mem_nil, or_false] at hp
    rcases hp with rfl | rfl | rfl | rfl | rfl | rfl | rfl | rfl | rfl | rfl
    · exact ⟨ml_small (by decide), Sl.nil _ _⟩
    · exact ⟨ml_small (by decide), Sl.nil _ _⟩
    · exact ⟨ml_small hx.1, hx.2⟩
    · exact ⟨ml_small (by simp), hl 2 [0] 3 (by subst ho; rfl)⟩
    · exact ⟨ml_small (by simp), hl 3 [0, 2] 3 (by subst ho; rfl)⟩
    · exact ⟨ml_small (by simp), hl 4 [3, 1] 3 (by subst ho; rfl)⟩
    · exact ⟨ml_small (by simp), hl 5 [4, 5] 3 (by subst ho; rfl)⟩
    · exact ⟨ml_small (by simp), hl 6 [6, 8] 3 (by subst ho; rfl)⟩
    · exact ⟨ml_small hy.1, hy.2⟩
    · exact ⟨ml_small (by decide), Sl.nil _ _⟩
  · exact Sl2.lit (f := RB) (g := RN) (xs := [⟨false, nx⟩]) (T := 78) (fr := (0, 0)) (by subst ho; rfl) rfl
  · exact hl 10 [7, 1] 3 (by subst ho; rfl)
def knotBox (n : Nat) : Obj := .cells #[I 1, .slice (some ⟨n + 8, 0, none⟩) 10 10, .slice (some ⟨n + 9, 0, none⟩) 1 1, .slice (some ⟨n + 10, 0, none⟩) 2 2] 26
def tiedW (w : World) : World := allocs w (knotOs w.heap.size (knotGs w.heap.size [1] (A1 w.heap.size) [9] (some ⟨w.heap.size + 12, 0, none⟩)) 6 ++ [knotBox w.heap.size, .cells #[I 9] 3])
abbrev tiedM : NetM := knotN [1] [9] 6
def tied0 (w : World) : World := ((knotW w).alloc (knotBox w.heap.size)).alloc (.cells #[I 9] 3)
theorem tied0_eq (w : World) : tied0 w = allocs w (knotOs w.heap.size (knotGs w.heap.size [1] (A1 w.heap.size) [7, 9] (A7 w.heap.size)) 6 ++ [knotBox w.heap.size, .cells #[I 9] 3]) := rfl
theorem tied_set (w : World) : (tied0 w).setCell ⟨w.heap.size + 8, 26, none⟩ (.slice (some ⟨w.heap.size + 12, 0, none⟩) 1 1) = tiedW w := by
  rw [tied0_eq]
  refine (allocs_set (j := 8) rfl 26 (.slice (some ⟨w.heap.size + 12, 0, none⟩) 1 1) rfl).trans (congrArg (allocs w) ?_)
  rw [List.set_append_left _ _ (by simp [knotOs])]
  exact congrArg (· ++ [knotBox w.heap.size, .cells #[I 9] 3]) rfl
theorem tied_cell (w : World) : (tied0 w).cell? ⟨w.heap.size + 8, 26, none⟩ = some (.slice (some ⟨w.heap.size + 7, 0, none⟩) 2 2) := by
  rw [tied0_eq]; exact (allocs_cell (j := 8) rfl 26).trans rfl
theorem tied_free (w : World) : (tied0 w).frozen? ⟨w.heap.size + 8, 26, none⟩ = false := by
  rw [tied0_eq]; exact allocs_free (j := 8) rfl 26
theorem tiedW_ext (w : World) : Ext w (tiedW w) := allocs_ext _ _
theorem tiedW_size (w : World) : (tiedW w).heap.size = w.heap.size + 13 := by unfold tiedW; rw [allocs_size]; rfl
theorem tiedC (w : World) : NetC (tiedW w) 1 (some ⟨w.heap.size + 8, 0, none⟩) 10 10 (some ⟨w.heap.size + 9, 0, none⟩) 1 1 (some ⟨w.heap.size + 10, 0, none⟩) 2 2 tiedM :=
  knotC' rfl ⟨by decide, Sl.lit (j := 1) (cs := [I 1]) (T := 3) (fr := (0, 0)) rfl rfl⟩ ⟨by decide, Sl.lit (j := 12) (cs := [I 9]) (T := 3) (fr := (0, 0)) rfl rfl⟩
theorem tiedBox (w : World) : NetBox (tiedW w) (w.heap.size + 11) 1 (some ⟨w.heap.size + 8, 0, none⟩) 10 10 (some ⟨w.heap.size + 9, 0, none⟩) 1 1 (some ⟨w.heap.size + 10, 0, none⟩) 2 2 := by
  unfold NetBox tiedW
  exact ⟨(allocs_cell (j := 11) rfl 0).trans rfl, (allocs_cell (j := 11) rfl 1).trans rfl, (allocs_cell (j := 11) rfl 2).trans rfl, (allocs_cell (j := 11) rfl 3).trans rfl⟩
end Go.Proofs.Ytjagbnaacfhokaa
