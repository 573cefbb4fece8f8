/- Memory that is laid as literals, one block behind the other. No program in sight. -/
import Derived.Test.YtjagbnaacfhokaaLib2
namespace Go.Proofs.Ytjagbnaacfhokaa
set_option linter.unusedVariables false
set_option linter.unusedSimpArgs false
open Go.RowKit

def allocs (w : World) (os : List Obj) : World := os.foldl World.alloc w
theorem allocs_snoc (w : World) (os : List Obj) (o : Obj) : allocs w (os ++ [o]) = (allocs w os).alloc o := by simp [allocs]
theorem allocs_size (os : List Obj) : ∀ w : World, (allocs w os).heap.size = w.heap.size + os.length := by
  induction os with
  | nil => intro w; rfl
  | cons o os ih => intro w; have := ih (w.alloc o); simp only [allocs, List.foldl_cons] at *; rw [this]; simp; omega
theorem allocs_ext (os : List Obj) : ∀ w : World, Ext w (allocs w os) := by
  induction os with
  | nil => intro w; exact Ext.refl w
  | cons o os ih => intro w; exact ((Ext.refl w).alloc o).trans (ih (w.alloc o))
theorem allocs_heap (os : List Obj) : ∀ (w : World) (j : Nat), (allocs w os).heap[w.heap.size + j]? = os[j]? := by
  induction os with
  | nil => intro w j; show w.heap[w.heap.size + j]? = _; rw [Array.getElem?_eq_none (by omega)]; rfl
  | cons o os ih =>
    intro w j
    have hs : (w.alloc o).heap.size = w.heap.size + 1 := World.size_alloc ..
    cases j with
    | zero =>
      have hb : (allocs (w.alloc o) os).heap[w.heap.size]? = (w.alloc o).heap[w.heap.size]? := (allocs_ext os (w.alloc o)).block w.heap.size (by omega)
      show (allocs (w.alloc o) os).heap[w.heap.size]? = some o
      rw [hb]; exact heap_alloc_new w o
    | succ j =>
      have := ih (w.alloc o) j
      rw [hs] at this
      show (allocs (w.alloc o) os).heap[w.heap.size + (j + 1)]? = os[j]?
      rw [← this]; congr 1; omega
theorem allocs_cell {w : World} {os : List Obj} {j : Nat} {cs : Array Value} {T : TypeId} {fr : Nat × Nat} (h : os[j]? = some (.cells cs T fr)) (off : Nat) : (allocs w os).cell? ⟨w.heap.size + j, off, none⟩ = cs[off]? := by
  have := allocs_heap os w j
  rw [h] at this
  exact cell_of_row _ _ _ _ _ _ this
theorem allocs_free {w : World} {os : List Obj} {j : Nat} {cs : Array Value} {T : TypeId} (h : os[j]? = some (.cells cs T)) (off : Nat) : (allocs w os).frozen? ⟨w.heap.size + j, off, none⟩ = false := by
  have := allocs_heap os w j
  rw [h] at this
  exact frozen_of_row _ _ _ _ _ this
theorem push_modify {α : Type} (a : Array α) (x : α) (i : Nat) (f : α → α) : (a.push x).modify i f = if i = a.size then a.push (f x) else (a.modify i f).push x := by
  apply Array.ext_getElem?
  intro j
  by_cases e : i = a.size
  · subst e
    rw [if_pos rfl]
    simp only [Array.getElem?_modify, Array.getElem?_push]
    by_cases h : j = a.size
    · subst h; simp
    · have : ¬ a.size = j := fun q => h q.symm
      simp [h, this]
  · rw [if_neg e]
    simp only [Array.getElem?_modify, Array.getElem?_push, Array.size_modify]
    by_cases h : j = a.size
    · subst h; simp [e]
    · simp [h]
theorem alloc_set (w : World) (o : Obj) (m off : Nat) (v : Value) (hm : m < w.heap.size) : (w.alloc o).setCell ⟨m, off, none⟩ v = (w.setCell ⟨m, off, none⟩ v).alloc o := by
  unfold World.setCell World.alloc
  dsimp only
  rw [push_modify, if_neg (by omega)]
theorem allocs_set {w : World} {os : List Obj} {j : Nat} {cs : Array Value} {T : TypeId} {fr : Nat × Nat} (h : os[j]? = some (.cells cs T fr)) (off : Nat) (v : Value) :
    ∀ {m : Nat}, m = w.heap.size + j → (allocs w os).setCell ⟨m, off, none⟩ v = allocs w (os.set j (.cells (cs.setIfInBounds off v) T fr)) := by
  induction os generalizing w j with
  | nil => simp at h
  | cons o os ih =>
    intro m hm
    have hs : (w.alloc o).heap.size = w.heap.size + 1 := World.size_alloc ..
    have gen : ∀ (os : List Obj) (a b : World), a = b → allocs a os = allocs b os := fun os a b e => by rw [e]
    cases j with
    | zero =>
      simp at h
      subst h
      have hset : ∀ (os : List Obj) (W : World), m < W.heap.size → (allocs W os).setCell ⟨m, off, none⟩ v = allocs (W.setCell ⟨m, off, none⟩ v) os := by
        intro os
        induction os with
        | nil => intro W _; rfl
        | cons o' os ih2 =>
          intro W hW
          have := ih2 (W.alloc o') (by rw [World.size_alloc]; omega)
          show (allocs (W.alloc o') os).setCell _ _ = allocs ((W.setCell ⟨m, off, none⟩ v).alloc o') os
          rw [this, alloc_set _ _ _ _ _ hW]
      show (allocs (w.alloc (.cells cs T fr)) os).setCell ⟨m, off, none⟩ v = allocs (w.alloc (.cells (cs.setIfInBounds off v) T fr)) os
      rw [hset os _ (by rw [hs]; omega)]
      congr 1
      subst hm
      unfold World.setCell World.alloc
      dsimp only
      rw [push_modify, if_pos (by simp)]; rfl
    | succ j =>
      show (allocs (w.alloc o) os).setCell ⟨m, off, none⟩ v = allocs (w.alloc o) (os.set j _)
      exact ih (w := w.alloc o) (j := j) (by simpa using h) (by rw [hs]; omega)
theorem Sl.lit {w : World} {os : List Obj} {j : Nat} {cs : List Value} {T : TypeId} {fr : Nat × Nat} (h : os[j]? = some (.cells cs.toArray T fr)) {m : Nat} (hm : m = w.heap.size + j) : Sl (allocs w os) (some ⟨m, 0, none⟩) cs.length cs :=
  ⟨rfl, fun k u hu => ⟨m, 0, rfl, by subst hm; rw [allocs_cell h, Nat.zero_add]; simpa using hu⟩⟩
end Go.Proofs.Ytjagbnaacfhokaa
