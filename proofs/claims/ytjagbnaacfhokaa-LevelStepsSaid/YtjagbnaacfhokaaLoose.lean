/- The two nets of the laws, as contracts. -/
import Derived.Test.YtjagbnaacfhokaaNetBegun
namespace Go.Proofs.Ytjagbnaacfhokaa
set_option linter.unusedVariables false
set_option linter.unusedSimpArgs false
open Go.RowKit

theorem knot_ok (w : World) : Calls Try.prog 74 #[] w fun e w' => ∃ n, e = .returned (knotV n) ∧ NetC w' 1 (some ⟨n + 8, 0, none⟩) 10 10 (some ⟨n + 9, 0, none⟩) 1 1 (some ⟨n + 10, 0, none⟩) 2 2 knotM ∧ Ext w w' :=
  (knot_any w).mono fun e w' ⟨h1, h2⟩ => ⟨w.heap.size, h1, by rw [← h2]; exact knotC0 w, by rw [← h2]; exact knotW_ext w⟩
def looseGs (n : Nat) : List GateL := [(⟨2, 0, []⟩, none), (⟨5, 0, [0, 2]⟩, some ⟨n + 1, 0, none⟩), (⟨4, 0, [1]⟩, some ⟨n + 2, 0, none⟩)]
def looseOs (n : Nat) : List Obj :=
  [.cells #[I 1, .slice (some ⟨n + 3, 0, none⟩) 3 3, .slice none 0 0, .slice (some ⟨n + 4, 0, none⟩) 1 1] 26,
    .cells #[I 0, I 2] 3, .cells #[I 1] 3, .cells (gateCells (looseGs n)).toArray 34, .cells #[I 1] 3]
def looseM : NetM := ⟨1, [⟨2, 0, []⟩, ⟨5, 0, [0, 2]⟩, ⟨4, 0, [1]⟩], [], [1]⟩
abbrev looseV (n : Nat) : Value := netV 1 (some ⟨n + 3, 0, none⟩) 3 3 none 0 0 (some ⟨n + 4, 0, none⟩) 1 1
theorem looseC (w : World) : NetC (allocs w (looseOs w.heap.size)) 1 (some ⟨w.heap.size + 3, 0, none⟩) 3 3 none 0 0 (some ⟨w.heap.size + 4, 0, none⟩) 1 1 looseM := by
  have hl : ∀ (j : Nat) (cs : List Int) (T : TypeId), (looseOs w.heap.size)[j]? = some (.cells (cs.map I).toArray T) → Sl (allocs w (looseOs w.heap.size)) (some ⟨w.heap.size + j, 0, none⟩) cs.length (cs.map I) := fun j cs T h => by
    have := Sl.lit (w := w) (cs := cs.map I) h rfl; simpa using this
  refine ⟨rfl, ?_, Sl2.nil _ _ _ _, ?_, ⟨by decide, ml_small (by decide)⟩, ⟨by decide, ml_small (by decide)⟩, ⟨by decide, ml_small (by decide)⟩⟩
  · refine SlG.lit (j := 3) (gs := looseGs w.heap.size) (T := 34) (fr := (0, 0)) rfl rfl ?_
    intro p hp
    simp only [looseGs, List.mem_cons, List.not_mem_nil, or_false] at hp
    rcases hp with rfl | rfl | rfl
    · exact ⟨ml_small (by decide), Sl.nil _ _⟩
    · exact ⟨ml_small (by simp), hl 1 [0, 2] 3 rfl⟩
    · exact ⟨ml_small (by simp), hl 2 [1] 3 rfl⟩
  · exact hl 4 [1] 3 rfl
theorem loose_any (w : World) : Calls Try.prog 78 #[] w fun e w' => e = .returned (looseV w.heap.size) ∧ allocs w (looseOs w.heap.size) = w' := by
  go_enter Try.func78, Try.ntmps78
  go_wp2
  exact bodyPost_ret (v := looseV w.heap.size) (by simp [results, Try.results78, go_sem]) rfl ⟨rfl, rfl⟩
theorem loose_ok (w : World) : Calls Try.prog 78 #[] w fun e w' => ∃ n, e = .returned (looseV n) ∧ NetC w' 1 (some ⟨n + 3, 0, none⟩) 3 3 none 0 0 (some ⟨n + 4, 0, none⟩) 1 1 looseM ∧ Ext w w' :=
  (loose_any w).mono fun e w' ⟨h1, h2⟩ => ⟨w.heap.size, h1, by rw [← h2]; exact looseC w, by rw [← h2]; exact allocs_ext _ _⟩
end Go.Proofs.Ytjagbnaacfhokaa
