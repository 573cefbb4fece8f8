/- A row of rows that a call makes, one row behind the other; SameRows. -/
import Derived.Test.YtjagbnaacfhokaaLib2
namespace Go.Proofs.Ytjagbnaacfhokaa
set_option linter.unusedVariables false
set_option linter.unusedSimpArgs false
open Go.RowKit

theorem own_types {w : World} {base base' : Nat} {e e' : TypeId} {size size' n m : Nat} {v v' : Value} {xs ys : List Value} (h : w.ownsRow base e size v n xs) (h' : w.ownsRow base' e' size' v' m ys) (hne : e ≠ e') : v.ownBlock = none ∨ v.ownBlock ≠ v'.ownBlock := by
  rcases h.2 with ⟨rfl, _⟩ | ⟨g, cap, cur, rfl, _, hg, _⟩
  · exact .inl rfl
  · right
    intro e1
    rcases h'.2 with ⟨rfl, _⟩ | ⟨g', cap', cur', rfl, _, hg', _⟩
    · cases e1
    · have e2 : g = g' := Option.some.inj e1
      subst e2
      rw [hg] at hg'
      injection hg' with hg'
      injection hg' with _ h3 _
      exact hne h3
/-- A row of rows of numbers, all of the call's own. -/
structure OwnRows (E T : TypeId) (w : World) (base : Nat) (s : Value) (rows : List (List Int)) (vs : List Value) : Prop where
  row : w.ownsRow base E 1 s rows.length vs
  own : ∀ (k : Nat) v r, vs[k]? = some v → rows[k]? = some r → w.ownsRow base T 1 v r.length (r.map I)
section
variable {E T : TypeId} {w w' : World} {base : Nat} {s : Value} {rows : List (List Int)} {vs : List Value}
theorem OwnRows.vl (h : OwnRows E T w base s rows vs) : vs.length = rows.length := by have := h.row.1; omega
theorem OwnRows.nil (E T : TypeId) (w : World) (base : Nat) : OwnRows E T w base (.slice none 0 0) [] [] := ⟨World.ownsRow_nil _ _ _ _, fun k v r h => by simp at h⟩
theorem OwnRows.ext (h : OwnRows E T w base s rows vs) (hx : Ext w w') : OwnRows E T w' base s rows vs := ⟨own_ext h.row hx, fun k v r hv hr => own_ext (h.own k v r hv hr) hx⟩
theorem OwnRows.base_le {base' : Nat} (h : OwnRows E T w base s rows vs) (hb : base' ≤ base) : OwnRows E T w base' s rows vs := ⟨own_base h.row hb, fun k v r hv hr => own_base (h.own k v r hv hr) hb⟩
theorem OwnRows.push (h : OwnRows E T w base s rows vs) (hne : T ≠ E) {s' v : Value} {r : List Int} (hv : w.ownsRow base T 1 v r.length (r.map I)) (hown : w'.ownsRow base E 1 s' (rows.length + 1) (vs ++ [v])) (hg : w.grownBy w' s.ownBlock) :
    OwnRows E T w' base s' (rows ++ [r]) (vs ++ [v]) := by
  refine ⟨by simpa using hown, fun k y z hy hz => ?_⟩
  have hvl := h.vl
  by_cases hk : k < vs.length
  · rw [List.getElem?_append_left hk] at hy
    rw [List.getElem?_append_left (by omega)] at hz
    have h1 := h.own k y z hy hz
    exact h1.kept hg (own_types h1 h.row hne)
  · rw [List.getElem?_append_right (by omega)] at hy hz
    rw [← hvl] at hz
    cases hq : k - vs.length with
    | zero =>
      rw [hq] at hy hz
      simp at hy hz
      subst hy; subst hz
      exact hv.kept hg (own_types hv h.row hne)
    | succ q => rw [hq] at hy; simp at hy
end
/-- A slice of slices of numbers that is read. -/
def SlRows (w : World) (A : Option Addr) (n : Nat) (rows : List (List Int)) : Prop :=
  rows.length = n ∧ ∀ (k : Nat) r, rows[k]? = some r → ∃ b off A' c, A = some ⟨b, off, none⟩ ∧ w.cell? ⟨b, off + k, none⟩ = some (.slice A' r.length c) ∧ Sl w A' r.length (r.map I) ∧ r.length ≤ c ∧ c ≤ maxLen
theorem SlRows.keep {w w' : World} {A : Option Addr} {n : Nat} {rows : List (List Int)} (h : SlRows w A n rows) (hk : Keeps w w') : SlRows w' A n rows :=
  ⟨h.1, fun k r hr => let ⟨b, off, A', c, e, hc, hs, h1, h2⟩ := h.2 k r hr; ⟨b, off, A', c, e, hk _ _ hc, hs.keep hk, h1, h2⟩⟩
theorem SlRows.nil (w : World) (A : Option Addr) : SlRows w A 0 [] := ⟨rfl, fun k r h => by simp at h⟩
theorem OwnRows.slice {E T : TypeId} {w : World} {base : Nat} {s : Value} {rows : List (List Int)} {vs : List Value} (h : OwnRows E T w base s rows vs) : ∃ A c, s = .slice A rows.length c ∧ rows.length ≤ c ∧ c ≤ maxLen ∧ SlRows w A rows.length rows := by
  obtain ⟨A, c, rfl, h1, h2, hc⟩ := own_slice h.row
  refine ⟨A, c, rfl, h1, h2, rfl, fun k r hr => ?_⟩
  have hk : k < vs.length := by have := h.vl; have := (List.getElem?_eq_some_iff.1 hr).1; omega
  obtain ⟨b, off, e, hcell⟩ := hc k vs[k] (List.getElem?_eq_getElem hk)
  obtain ⟨A', c', e', g1, g2, hs⟩ := own_sl (h.own k vs[k] r (List.getElem?_eq_getElem hk) hr)
  exact ⟨b, off, A', c', e, by rw [hcell, e'], hs, g1, g2⟩
end Go.Proofs.Ytjagbnaacfhokaa
