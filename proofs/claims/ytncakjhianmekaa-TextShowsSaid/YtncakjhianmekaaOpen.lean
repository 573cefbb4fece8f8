/- How arguments that are read as data open to the words of Lib: slices of structs of one-cell fields. (open_slice_fields is the guide's page extra-structs, to be copied.) -/
import Derived.Test.YtncakjhianmekaaChecked
import Derived.Test.YtncakjhianmekaaLib
import Derived.Test.YtncakjhianmekaaPgPlain
import Derived.Deep.Slices
import Derived.Deep.Fields
import Derived.ChangeSame
import Derived.OpenShut
import Derived.SizedLaws
namespace Go.Proofs.Ytncakjhianmekaa
set_option linter.unusedVariables false
set_option linter.unusedSimpArgs false
open Go.ChangeShapes Go.WideShapes Go.Deep Go.RowKit
section
variable {H : Type} {enc : TypeId × Value → H} {P : Program} {w : World} {base : Nat} {spare : Nat → Bool} {held : Bool}
theorem open_slice_fields {t e : TypeId} {fs : Array Field} {fuel : Nat} {cs : List Value} {x : DataW H × List MemPlace} (ht : P.underlying t = some (.slice e)) (he : P.underlying e = some (.struct fs))
    (hone : oneCellFields P fs = true) (hC : P.cellsOf e = fs.size) (h : DataW.trod enc P w base spare held fuel t cs = some x) :
    (cs = [.slice none 0 0] ∧ x = (.nil, [])) ∨
    ∃ (a : Addr) (len cap m : Nat) (D : Nat → DataW H) (Pl : Nat → List MemPlace), cs = [.slice (some a) len cap] ∧ base ≤ a.block ∧ len ≤ cap ∧ cap ≤ maxLen ∧ m = (if spare a.block then cap else len) ∧
      x = (.slice ((List.range len).map D) ((List.range (m - len)).map fun j => D (len + j)), MemPlace.row a (m * fs.size) ++ (List.range m).flatMap Pl) ∧
      ∀ i, i < m → ∃ (ys : List (DataW H × List MemPlace)) (n : Nat), D i = .agg (ys.map (·.1)) ∧ Pl i = ys.flatMap (·.2) ∧ ys.length = fs.size ∧
        ∀ (j : Nat) (f : Field), fs[j]? = some f → ∃ (v : Value) (y : DataW H × List MemPlace), w.cell? (a.add (i * fs.size + j)) = some v ∧ ys[j]? = some y ∧ DataW.trod enc P w base spare held n f.type [v] = some y := by
  rcases open_slice ht h with h0 | ⟨a, len, cap, m, n, D, Pl, hcs, hb, hl, hm, hmm, hx, hi⟩
  · exact .inl h0
  · refine .inr ⟨a, len, cap, m, D, Pl, hcs, hb, hl, hm, hmm, by rw [hC] at hx; exact hx, fun i him => ?_⟩
    obtain ⟨cs', hc, ht'⟩ := hi i him
    rw [hC] at hc
    obtain ⟨ys, n', hn', hy, hlen, hyl, hf⟩ := DataW.trod_struct he ht'
    obtain ⟨_, hcl, hat⟩ := World.cells?_some hc
    simp only [Prod.mk.injEq] at hy
    refine ⟨ys, n', hy.1, hy.2, hyl, fun j f hj => ?_⟩
    obtain ⟨ho, hk⟩ := hone_of hone j f hj
    have hjl : j < fs.size := (Array.getElem?_eq_some_iff.1 hj).1
    have hcell := hat j hjl
    have hv : cs'[j]? = some (cs'[j]'(by omega)) := List.getElem?_eq_getElem (by omega)
    have h1 := hf j f hj
    rw [ho, hk] at h1
    have hone' : (cs'.drop j).take 1 = [cs'[j]'(by omega)] := by
      rw [List.drop_eq_getElem_cons (by omega)]
      rfl
    rw [hone'] at h1
    have hys : ys[j]? = some (ys[j]'(by omega)) := List.getElem?_eq_getElem (by omega)
    refine ⟨_, _, ?_, hys, h1.trans hys⟩
    rw [← Go.Deep.add_add, hcell, hv]

end

/-- A slice of nodes that is read as data reads as a list of nodes. -/
theorem open_nodes {H : Type} {enc : TypeId × Value → H} {w : World} {base : Nat} {held : Bool} {fuel : Nat} {cs : List Value} {x : DataW H × List MemPlace}
    (h : DataW.trod enc Try.prog w base (fun _ => true) held fuel 22 cs = some x) :
    ∃ (A : Option Addr) (n c : Nat) (p : List PNode), cs = [.slice A n c] ∧ Sl2 (fun x : PNode => I x.kind) (fun x => I x.sig) w A n p ∧ n ≤ c ∧ c ≤ maxLen ∧
      ∀ y ∈ p, (Lit.int .i64 y.kind).wf = true ∧ (Lit.int .i64 y.sig).wf = true := by
  rcases open_slice_fields (P := Try.prog) (fs := _) Try.underlying22 Try.underlying37 (by kernel_rfl) (by kernel_rfl) h with ⟨rfl, rfl⟩ | ⟨a, len, cap, m, D, Pl, rfl, hb, hl, hm, hmm, hx, hf⟩
  · exact ⟨none, 0, 0, [], rfl, Sl2.nil _ _ _ _, Nat.le_refl _, Nat.zero_le _, by simp⟩
  · simp only [if_true] at hmm
    have each : ∀ i, i < len → ∃ y : PNode, w.cell? (a.add (i * 2)) = some (I y.kind) ∧ w.cell? (a.add (i * 2 + 1)) = some (I y.sig) ∧ (Lit.int .i64 y.kind).wf = true ∧ (Lit.int .i64 y.sig).wf = true := by
      intro i hi
      obtain ⟨ys, n, _, _, _, hff⟩ := hf i (by omega)
      obtain ⟨v0, y0, hc0, hy0, ht0⟩ := hff 0 _ rfl
      obtain ⟨v1, y1, hc1, hy1, ht1⟩ := hff 1 _ rfl
      obtain ⟨k0, e0, _, wf0⟩ := DataW.trod_int Try.underlying3 ht0
      obtain ⟨k1, e1, _, wf1⟩ := DataW.trod_int Try.underlying3 ht1
      simp only [List.cons.injEq, and_true] at e0 e1
      subst e0; subst e1
      exact ⟨⟨k0, k1⟩, hc0, hc1, wf0, wf1⟩
    have hlist : ∀ m, m ≤ len → ∃ p : List PNode, p.length = m ∧ ∀ i y, p[i]? = some y → w.cell? (a.add (i * 2)) = some (I y.kind) ∧ w.cell? (a.add (i * 2 + 1)) = some (I y.sig) ∧ (Lit.int .i64 y.kind).wf = true ∧ (Lit.int .i64 y.sig).wf = true := by
      intro m
      induction m with
      | zero => exact fun _ => ⟨[], rfl, by simp⟩
      | succ m ih =>
        intro hm
        obtain ⟨p, hp, hp2⟩ := ih (by omega)
        obtain ⟨y, hy⟩ := each m (by omega)
        refine ⟨p ++ [y], by simp [hp], fun i z hz => ?_⟩
        rw [List.getElem?_append] at hz
        split at hz
        · exact hp2 i z hz
        · rename_i hlt
          have hi : i = m := by
            rcases Nat.eq_or_lt_of_le (show m ≤ i by omega) with e | e
            · exact e.symm
            · rw [List.getElem?_eq_none (by simp; omega)] at hz; cases hz
          subst hi
          simp [hp] at hz; subst hz
          exact hy
    obtain ⟨p, hp, hp2⟩ := hlist len (Nat.le_refl _)
    refine ⟨some a, len, cap, p, rfl, ⟨hp, fun k y hxk => ?_⟩, hl, hm, fun y hy => ?_⟩
    · obtain ⟨h0, h1, _⟩ := hp2 k y hxk
      have hs : a.spot = none := by
        have h00 := World.cell?_spot h0
        unfold Addr.add at h00; split at h00
        · exact h00
        · rename_i hk
          obtain ⟨b, o, s⟩ := a
          have h01 := (hp2 0 (p[0]'(by have := (List.getElem?_eq_some_iff.1 hxk).1; omega)) (List.getElem?_eq_getElem _)).1
          simpa [Addr.add] using World.cell?_spot h01
      obtain ⟨b, o, s⟩ := a
      subst hs
      rw [add_plain'] at h0 h1
      exact ⟨b, o, rfl, h0, by rw [Nat.add_assoc]; exact h1⟩
    · obtain ⟨i, hi⟩ := List.mem_iff_getElem?.1 hy
      exact (hp2 i y hi).2.2
end Go.Proofs.Ytncakjhianmekaa
