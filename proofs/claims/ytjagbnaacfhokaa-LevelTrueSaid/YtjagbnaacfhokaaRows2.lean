/- A row of rows of numbers, all of the call's own. No program in sight. -/
import Derived.Test.YtjagbnaacfhokaaQueue
import Derived.Test.YtjagbnaacfhokaaEvalLib
namespace Go.Proofs.Ytjagbnaacfhokaa
set_option linter.unusedVariables false
set_option linter.unusedSimpArgs false
open Go.RowKit

structure Rows2 (E T : TypeId) (w : World) (base g0 n : Nat) (U : List (List Int)) (vs : List Value) : Prop where
  row : w.ownsRow base E 1 (.slice (some ⟨g0, 0, none⟩) n n) n vs
  len : U.length = n
  own : ∀ (k : Nat) v u, vs[k]? = some v → U[k]? = some u → w.ownsRow base T 1 v u.length (u.map I)
  off : ∀ (k : Nat) v, vs[k]? = some v → v.ownBlock ≠ some g0
  apart : ∀ (j k : Nat) v v', vs[j]? = some v → vs[k]? = some v' → j ≠ k → v.ownBlock = none ∨ v.ownBlock ≠ v'.ownBlock
section
variable {E T : TypeId} {w w' : World} {base g0 n : Nat} {U : List (List Int)} {vs : List Value}
theorem Rows2.vl (h : Rows2 E T w base g0 n U vs) : vs.length = n := by have := h.row.1; omega
theorem Rows2.start (w : World) (hb : base ≤ w.heap.size) (hm : n ≤ maxLen) (g0 : Nat) (hg0 : g0 = w.heap.size) : Rows2 E T (w.alloc (.cells (zeros (.slice none 0 0) n) E)) base g0 n (List.replicate n []) (List.replicate n (.slice none 0 0)) := by
  subst hg0
  refine ⟨own_made w E _ n base hb hm, by simp, fun k v u hv hu => ?_, fun k v hv => ?_, fun j k v v' hv _ _ => ?_⟩
  · rw [List.getElem?_replicate] at hv hu
    split at hv
    · rename_i hk
      rw [if_pos hk] at hu
      injection hv with hv; injection hu with hu
      subst hv; subst hu
      exact World.ownsRow_nil _ _ _ _
    · cases hv
  · rw [List.getElem?_replicate] at hv
    split at hv
    · injection hv with hv; subst hv; simp [Value.ownBlock]
    · cases hv
  · rw [List.getElem?_replicate] at hv
    split at hv
    · injection hv with hv; subst hv; exact .inl rfl
    · cases hv
theorem Rows2.ext (h : Rows2 E T w base g0 n U vs) (hx : Ext w w') : Rows2 E T w' base g0 n U vs :=
  ⟨own_ext h.row hx, h.len, fun k v u hv hu => own_ext (h.own k v u hv hu) hx, h.off, h.apart⟩
theorem Rows2.base_le {base' : Nat} (h : Rows2 E T w base g0 n U vs) (hb : base' ≤ base) : Rows2 E T w base' g0 n U vs :=
  ⟨own_base h.row hb, h.len, fun k v u hv hu => own_base (h.own k v u hv hu) hb, h.off, h.apart⟩
theorem Rows2.get (h : Rows2 E T w base g0 n U vs) {k : Nat} (hk : k < n) : ∃ v u, vs[k]? = some v ∧ U[k]? = some u ∧ w.cell? ⟨g0, k, none⟩ = some v ∧ w.frozen? ⟨g0, k, none⟩ = false ∧ w.ownsRow base T 1 v u.length (u.map I) ∧ base ≤ g0 := by
  obtain ⟨⟨v, h1, h2⟩, h3, h4⟩ := own_at h.row hk
  have hlt : k < U.length := by rw [h.len]; exact hk
  have hu : U[k]? = some U[k] := List.getElem?_eq_getElem hlt
  exact ⟨v, _, h1, hu, h2, h3, h.own k v _ h1 hu, h4⟩
/-- One more number in one of the rows. -/
theorem Rows2.step (h : Rows2 E T w base g0 n U vs) {a : Nat} {v v' : Value} {u : List Int} {x : Int} (hv : vs[a]? = some v) (hu : U[a]? = some u)
    (hown : w'.ownsRow base T 1 v' (u.length + 1) (u.map I ++ [I x])) (hg : w.grownBy w' v.ownBlock) (hf : ∀ k, v'.ownBlock = some k → v.ownBlock = some k ∨ w.heap.size ≤ k) :
    Rows2 E T (w'.setCell ⟨g0, a, none⟩ v') base g0 n (U.modify a (· ++ [x])) (vs.set a v') := by
  have hal : a < vs.length := (List.getElem?_eq_some_iff.1 hv).1
  have hau : a < U.length := (List.getElem?_eq_some_iff.1 hu).1
  have hv' : v'.ownBlock ≠ some g0 := fun e => by
    rcases hf g0 e with q | q
    · exact h.off a v hv q
    · have := (h.row.lt g0 rfl).2; omega
  have hrow : w'.ownsRow base E 1 (.slice (some ⟨g0, 0, none⟩) n n) n vs := h.row.kept hg (.inr (fun e => h.off a v hv e.symm))
  refine ⟨(hrow.stored a v').1, by simp [h.len], fun k y z hy hz => ?_, fun k y hy => ?_, fun j k y y' hy hy' hne => ?_⟩
  · by_cases e : a = k
    · subst e
      rw [List.getElem?_set_self hal] at hy
      injection hy with hy; subst hy
      rw [List.getElem?_modify_eq, hu] at hz
      injection hz with hz; subst hz
      have := own_other (g := g0) (j := a) (u := v') hown hv'
      simpa using this
    · rw [List.getElem?_set_ne e] at hy
      rw [List.getElem?_modify] at hz; simp only [if_neg e] at hz; have hz : U[k]? = some z := by simpa using hz
      have h1 := h.own k y z hy hz
      have h2 := h1.kept hg (h.apart k a y v hy hv (fun q => e q.symm))
      exact own_other h2 (h.off k y hy)
  · by_cases e : a = k
    · subst e
      rw [List.getElem?_set_self hal] at hy
      injection hy with hy; subst hy; exact hv'
    · rw [List.getElem?_set_ne e] at hy; exact h.off k y hy
  · by_cases e : a = j
    · subst e
      rw [List.getElem?_set_self hal] at hy
      injection hy with hy; subst hy
      rw [List.getElem?_set_ne hne] at hy'
      cases hb : v'.ownBlock with
      | none => exact .inl rfl
      | some b =>
        right
        intro q
        rcases hf b hb with q2 | q2
        · rcases h.apart a k v y' hv hy' hne with q3 | q3
          · rw [q3] at q2; cases q2
          · exact q3 (q2.trans q)
        · cases hz : U[k]? with
          | none => have := (List.getElem?_eq_some_iff.1 hy').1; have := List.getElem?_eq_none_iff.1 hz; have := h.len; have := h.vl; omega
          | some z => have := ((h.own k y' z hy' hz).lt b q.symm).2; omega
    · rw [List.getElem?_set_ne e] at hy
      by_cases e2 : a = k
      · subst e2
        rw [List.getElem?_set_self hal] at hy'
        injection hy' with hy'; subst hy'
        cases hb : y.ownBlock with
        | none => exact .inl rfl
        | some b =>
          right
          intro q
          rcases hf b q.symm with q2 | q2
          · rcases h.apart j a y v hy hv hne with q3 | q3
            · rw [q3] at hb; cases hb
            · exact q3 (hb.trans q2.symm)
          · cases hz : U[j]? with
            | none => have := (List.getElem?_eq_some_iff.1 hy).1; have := List.getElem?_eq_none_iff.1 hz; have := h.len; have := h.vl; omega
            | some z => have := ((h.own j y z hy hz).lt b hb).2; omega
      · rw [List.getElem?_set_ne e2] at hy'
        exact h.apart j k y y' hy hy' hne
end
theorem len_le_total {U : List (List Int)} : ∀ {k : Nat} {u : List Int}, U[k]? = some u → u.length ≤ totalU U := by
  induction U with
  | nil => intro k u h; simp at h
  | cons x U ih =>
    intro k u h
    simp only [totalU, List.map_cons, List.sum_cons]
    cases k with
    | zero => simp at h; subst h; omega
    | succ k => have := ih (by simpa using h); simp only [totalU] at this; omega
end Go.Proofs.Ytjagbnaacfhokaa
