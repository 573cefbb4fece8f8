/- Nets that are laid as literals; the knot. -/
import Derived.Test.YtjagbnaacfhokaaRc01
import Derived.Test.YtjagbnaacfhokaaRc21
namespace Go.Proofs.Ytjagbnaacfhokaa
set_option linter.unusedVariables false
set_option linter.unusedSimpArgs false
open Go.RowKit

theorem flat3_get {α : Type} (f g h : α → Value) (xs : List α) : ∀ k, (xs.flatMap fun x => [f x, g x, h x])[k * 3]? = xs[k]?.map f ∧ (xs.flatMap fun x => [f x, g x, h x])[k * 3 + 1]? = xs[k]?.map g ∧ (xs.flatMap fun x => [f x, g x, h x])[k * 3 + 2]? = xs[k]?.map h := by
  induction xs with
  | nil => intro k; simp
  | cons x xs ih =>
    intro k
    cases k with
    | zero => simp
    | succ k =>
      have := ih k
      rw [show (k + 1) * 3 = k * 3 + 3 from by omega]
      simpa using this
/-- Gates with their args' heads. -/
abbrev GateL := GateM × Option Addr
def gateCells (l : List GateL) : List Value := l.flatMap fun p => [I p.1.kind, I p.1.num, .slice p.2 p.1.args.length p.1.args.length]
theorem SlG.lit {w : World} {os : List Obj} {j : Nat} {gs : List GateL} {T : TypeId} {fr : Nat × Nat} (h : os[j]? = some (.cells (gateCells gs).toArray T fr)) {m : Nat} (hm : m = w.heap.size + j)
    (ha : ∀ p ∈ gs, p.1.args.length ≤ maxLen ∧ Sl (allocs w os) p.2 p.1.args.length (p.1.args.map I)) : SlG (allocs w os) (some ⟨m, 0, none⟩) gs.length (gs.map (·.1)) := by
  refine ⟨by simp, fun k g hg => ?_⟩
  rw [List.getElem?_map] at hg
  cases hk : gs[k]? with
  | none => rw [hk] at hg; cases hg
  | some p =>
    rw [hk] at hg
    simp at hg
    subst hg
    obtain ⟨f0, f1, f2⟩ := flat3_get (fun p : GateL => I p.1.kind) (fun p => I p.1.num) (fun p => .slice p.2 p.1.args.length p.1.args.length) gs k
    rw [hk] at f0 f1 f2
    obtain ⟨hl, hs⟩ := ha p (List.mem_of_getElem? hk)
    refine ⟨m, 0, p.2, p.1.args.length, p.1.args.length, rfl, ?_, ?_, ?_, hs, Nat.le_refl _, hl⟩
    · subst hm; rw [allocs_cell h, Nat.zero_add]; simpa [gateCells] using f0
    · subst hm; rw [allocs_cell h, Nat.zero_add]; simpa [gateCells] using f1
    · subst hm; rw [allocs_cell h, Nat.zero_add]; simpa [gateCells] using f2
theorem Sl2.lit {α : Type} {f g : α → Value} {w : World} {os : List Obj} {j : Nat} {xs : List α} {T : TypeId} {fr : Nat × Nat} (h : os[j]? = some (.cells (xs.flatMap fun x => [f x, g x]).toArray T fr)) {m : Nat} (hm : m = w.heap.size + j) :
    Sl2 f g (allocs w os) (some ⟨m, 0, none⟩) xs.length xs := by
  refine ⟨rfl, fun k x hx => ⟨m, 0, rfl, ?_, ?_⟩⟩
  · subst hm; rw [allocs_cell h, Nat.zero_add]; have := (flat2_get f g xs k).1; rw [hx] at this; simpa using this
  · subst hm; rw [allocs_cell h, Nat.zero_add]; have := (flat2_get f g xs k).2; rw [hx] at this; simpa using this
theorem ml_small {n : Nat} (h : n ≤ 1000) : n ≤ maxLen := by unfold maxLen; omega

/-! the knot: a net, its gates' third part maybe turned, its register's next maybe turned -/
def knotGs (n : Nat) (x : List Int) (A : Option Addr) (y : List Int) (B : Option Addr) : List GateL :=
  [(⟨2, 0, []⟩, none), (⟨3, 0, []⟩, none), (⟨6, 0, x⟩, A), (⟨6, 0, [0]⟩, some ⟨n + 2, 0, none⟩), (⟨4, 0, [0, 2]⟩, some ⟨n + 3, 0, none⟩), (⟨4, 0, [3, 1]⟩, some ⟨n + 4, 0, none⟩),
    (⟨5, 0, [4, 5]⟩, some ⟨n + 5, 0, none⟩), (⟨5, 0, [6, 8]⟩, some ⟨n + 6, 0, none⟩), (⟨4, 0, y⟩, B), (⟨0, 0, []⟩, none)]
abbrev A1 (n : Nat) : Option Addr := some ⟨n + 1, 0, none⟩
abbrev A7 (n : Nat) : Option Addr := some ⟨n + 7, 0, none⟩
def knotOs (n : Nat) (gs : List GateL) (nx : Int) : List Obj :=
  [.cells #[I 1, .slice (some ⟨n + 8, 0, none⟩) 10 10, .slice (some ⟨n + 9, 0, none⟩) 1 1, .slice (some ⟨n + 10, 0, none⟩) 2 2] 26,
    .cells #[I 1] 3, .cells #[I 0] 3, .cells #[I 0, I 2] 3, .cells #[I 3, I 1] 3, .cells #[I 4, I 5] 3, .cells #[I 6, I 8] 3, .cells #[I 7, I 9] 3,
    .cells (gateCells gs).toArray 34, .cells #[Bv false, I nx] 78, .cells #[I 7, I 1] 3]
def knotN (x y : List Int) (nx : Int) : NetM := ⟨1, [⟨2, 0, []⟩, ⟨3, 0, []⟩, ⟨6, 0, x⟩, ⟨6, 0, [0]⟩, ⟨4, 0, [0, 2]⟩, ⟨4, 0, [3, 1]⟩, ⟨5, 0, [4, 5]⟩, ⟨5, 0, [6, 8]⟩, ⟨4, 0, y⟩, ⟨0, 0, []⟩], [⟨false, nx⟩], [7, 1]⟩
abbrev knotM : NetM := knotN [1] [7, 9] 6
abbrev knotV (n : Nat) : Value := netV 1 (some ⟨n + 8, 0, none⟩) 10 10 (some ⟨n + 9, 0, none⟩) 1 1 (some ⟨n + 10, 0, none⟩) 2 2
abbrev knotW (w : World) : World := allocs w (knotOs w.heap.size (knotGs w.heap.size [1] (A1 w.heap.size) [7, 9] (A7 w.heap.size)) 6)
theorem knotC {w : World} {os : List Obj} {x y : List Int} {A B : Option Addr} {nx : Int} (ho : os = knotOs w.heap.size (knotGs w.heap.size x A y B) nx)
    (hx : x.length ≤ 1000 ∧ Sl (allocs w os) A x.length (x.map I)) (hy : y.length ≤ 1000 ∧ Sl (allocs w os) B y.length (y.map I)) :
    NetC (allocs w os) 1 (some ⟨w.heap.size + 8, 0, none⟩) 10 10 (some ⟨w.heap.size + 9, 0, none⟩) 1 1 (some ⟨w.heap.size + 10, 0, none⟩) 2 2 (knotN x y nx) := by
  have hl : ∀ (j : Nat) (cs : List Int) (T : TypeId), os[j]? = some (.cells (cs.map I).toArray T) → Sl (allocs w os) (some ⟨w.heap.size + j, 0, none⟩) cs.length (cs.map I) := fun j cs T h => by
    have := Sl.lit (w := w) (cs := cs.map I) h rfl; simpa using this
  refine ⟨rfl, ?_, ?_, ?_, ⟨by decide, ml_small (by decide)⟩, ⟨by decide, ml_small (by decide)⟩, ⟨by decide, ml_small (by decide)⟩⟩
  · refine SlG.lit (gs := knotGs w.heap.size x A y B) (T := 34) (fr := (0, 0)) (by subst ho; rfl) rfl ?_
    intro p hp
    simp only [knotGs, List.mem_cons, List.not_mem_nil, or_false] at hp
    rcases hp with rfl | rfl | rfl | rfl | rfl | rfl | rfl | rfl | rfl | rfl
    · exact ⟨ml_small (by decide), Sl.nil _ _⟩
    · exact ⟨ml_small (by decide), Sl.nil _ _⟩
    · exact ⟨ml_small hx.1, hx.2⟩
    · exact ⟨ml_small (by simp), hl 2 [0] 3 (by subst ho; rfl)⟩
    · exact ⟨ml_small (by simp), hl 3 [0, 2] 3 (by subst ho; rfl)⟩
    · exact ⟨ml_small (by simp), hl 4 [3, 1] 3 (by subst ho; rfl)⟩
    · exact ⟨ml_small (by simp), hl 5 [4, 5] 3 (by subst ho; rfl)⟩
    · exact ⟨ml_small (by simp), hl 6 [6, 8] 3 (by subst ho; rfl)⟩
    · exact ⟨ml_small hy.1, hy.2⟩
    · exact ⟨ml_small (by decide), Sl.nil _ _⟩
  · exact Sl2.lit (f := RB) (g := RN) (xs := [⟨false, nx⟩]) (T := 78) (fr := (0, 0)) (by subst ho; rfl) rfl
  · exact hl 10 [7, 1] 3 (by subst ho; rfl)
theorem knotC0 (w : World) : NetC (knotW w) 1 (some ⟨w.heap.size + 8, 0, none⟩) 10 10 (some ⟨w.heap.size + 9, 0, none⟩) 1 1 (some ⟨w.heap.size + 10, 0, none⟩) 2 2 knotM :=
  knotC rfl ⟨by decide, Sl.lit (j := 1) (cs := [I 1]) (T := 3) (fr := (0, 0)) rfl rfl⟩ ⟨by decide, Sl.lit (j := 7) (cs := [I 7, I 9]) (T := 3) (fr := (0, 0)) rfl rfl⟩

theorem knot_any (w : World) : Calls Try.prog 74 #[] w fun e w' => e = .returned (knotV w.heap.size) ∧ knotW w = w' := by
  go_enter Try.func74, Try.ntmps74
  go_wp2
  exact bodyPost_ret (v := knotV w.heap.size) (by simp [results, Try.results74, go_sem]) rfl ⟨rfl, rfl⟩
end Go.Proofs.Ytjagbnaacfhokaa
