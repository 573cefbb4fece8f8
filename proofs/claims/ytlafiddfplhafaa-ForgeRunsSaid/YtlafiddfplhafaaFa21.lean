/- Nets that are laid as literals; the knot. -/
import Derived.Test.YtlafiddfplhafaaFa03
import Derived.Test.YtlafiddfplhafaaFa20
namespace Go.Proofs.Ytlafiddfplhafaa
set_option linter.unusedVariables false
set_option linter.unusedSimpArgs false
set_option linter.unusedVariables false
set_option linter.unusedSimpArgs false
open Go.RowKit
theorem flat3_get {α : Type} (f g h : α → Value) (xs : List α) : ∀ k, (xs.flatMap fun x => [f x, g x, h x])[k * 3]? = xs[k]?.map f ∧ (xs.flatMap fun x => [f x, g x, h x])[k * 3 + 1]? = xs[k]?.map g ∧ (xs.flatMap fun x => [f x, g x, h x])[k * 3 + 2]? = xs[k]?.map h := by
  induction xs with
  | nil => intro k; simp
  | cons x xs ih =>
    intro k
    cases k with
    | zero => simp
    | succ k =>
      have := ih k
      rw [show (k + 1) * 3 = k * 3 + 3 from by omega]
      simpa using this
/-- Gates with their args' heads. -/
abbrev GateL := GateM × Option Addr
def gateCells (l : List GateL) : List Value := l.flatMap fun p => [I p.1.kind, I p.1.num, .slice p.2 p.1.args.length p.1.args.length]
theorem SlG.lit {w : World} {os : List Obj} {j : Nat} {gs : List GateL} {T : TypeId} {fr : Nat × Nat} (h : os[j]? = some (.cells (gateCells gs).toArray T fr)) {m : Nat} (hm : m = w.heap.size + j)
    (ha : ∀ p ∈ gs, p.1.args.length ≤ maxLen ∧ Sl (allocs w os) p.2 p.1.args.length (p.1.args.map I)) : SlG (allocs w os) (some ⟨m, 0, none⟩) gs.length (gs.map (·.1)) := by
  refine ⟨by simp, fun k g hg => ?_⟩
  rw [List.getElem?_map] at hg
  cases hk : gs[k]? with
  | none => rw [hk] at hg; cases hg
  | some p =>
    rw [hk] at hg
    simp at hg
    subst hg
    obtain ⟨f0, f1, f2⟩ := flat3_get (fun p : GateL => I p.1.kind) (fun p => I p.1.num) (fun p => .slice p.2 p.1.args.length p.1.args.length) gs k
    rw [hk] at f0 f1 f2
    obtain ⟨hl, hs⟩ := ha p (List.mem_of_getElem? hk)
    refine ⟨m, 0, p.2, p.1.args.length, p.1.args.length, rfl, ?_, ?_, ?_, hs, Nat.le_refl _, hl⟩
    · subst hm; rw [allocs_cell h, Nat.zero_add]; simpa [gateCells] using f0
    · subst hm; rw [allocs_cell h, Nat.zero_add]; simpa [gateCells] using f1
    · subst hm; rw [allocs_cell h, Nat.zero_add]; simpa [gateCells] using f2
theorem Sl2.lit {α : Type} {f g : α → Value} {w : World} {os : List Obj} {j : Nat} {xs : List α} {T : TypeId} {fr : Nat × Nat} (h : os[j]? = some (.cells (xs.flatMap fun x => [f x, g x]).toArray T fr)) {m : Nat} (hm : m = w.heap.size + j) :
    Sl2 f g (allocs w os) (some ⟨m, 0, none⟩) xs.length xs := by
  refine ⟨rfl, fun k x hx => ⟨m, 0, rfl, ?_, ?_⟩⟩
  · subst hm; rw [allocs_cell h, Nat.zero_add]; have := (flat2_get f g xs k).1; rw [hx] at this; simpa using this
  · subst hm; rw [allocs_cell h, Nat.zero_add]; have := (flat2_get f g xs k).2; rw [hx] at this; simpa using this
theorem ml_small {n : Nat} (h : n ≤ 1000) : n ≤ maxLen := by unfold maxLen; omega
/-! the knot: a net, its gates' third part maybe turned, its register's next maybe turned -/
abbrev A1 (n : Nat) : Option Addr := some ⟨n + 1, 0, none⟩
abbrev A7 (n : Nat) : Option Addr := some ⟨n + 7, 0, none⟩
end Go.Proofs.Ytlafiddfplhafaa
