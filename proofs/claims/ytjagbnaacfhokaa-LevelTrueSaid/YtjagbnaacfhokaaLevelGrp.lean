/- A map of slices of ints, keyed by ints, that the call itself makes: its rows as a function. -/
import Derived.Test.YtjagbnaacfhokaaEvalUsers
import Derived.Maps.GroupsBeside
namespace Go.Proofs.Ytjagbnaacfhokaa
set_option linter.unusedVariables false
set_option linter.unusedSimpArgs false
open Go.RowKit Go.Maps Go.WideElems Go.MapKept Go.ChangeShapes

abbrev GD := DataW Unit
/-- A datum reads as a list of ints: nil, and nothing; or the list. -/
def rdIs (d : GD) (z : List Int) : Prop := (d = .nil ∧ z = []) ∨ d = .slice (lits .i64 z) []
theorem lits_inj {a b : List Int} (h : (lits .i64 a : List GD) = lits .i64 b) : a = b := by
  unfold lits at h
  exact (List.map_inj_right (fun x y hxy => by injection hxy with hxy; injection hxy)).1 h
theorem rdIs_one {d : GD} {y z : List Int} (h : rdIs d y) (k : rdIs d z) : y = z := by
  rcases h with ⟨h, rfl⟩ | h <;> rcases k with ⟨k, rfl⟩ | k
  · rfl
  · rw [h] at k; cases k
  · rw [k] at h; cases h
  · rw [h] at k; injection k with k; exact lits_inj k
theorem rdIs_own {w : World} {base : Nat} {v : Value} {z : List Int} (h : w.ownsInts base 3 .i64 v z) : rdIs (rowDatum .i64 v z) z := by
  rcases h.datum (H := Unit) with ⟨h1, h2⟩ | h1
  · exact .inl ⟨h1, h2⟩
  · exact .inr h1
/-- Block b is a map of at most n entries; at k stands a slice of f k, of at most n; the rows lie from base on, each apart. -/
def Grp (w : World) (base b n : Nat) (f : Int → List Int) : Prop :=
  ∃ D : GD, w.ownsGroups Try.prog 3 base 3 .i64 b n D ∧ IsMap D ∧ ∀ k, 0 ≤ k → rdIs (D.atKey (.int .i64 k) .nil) (f k)
theorem grp_law : Keyed Try.prog 3 := int_keyed Try.underlying3
theorem grp_key (k : Int) : WideAt.IsKeyLit (.int .i64 k) := by trivial
theorem grp_zero (w : World) : (zeroValue 24).run Try.prog w = .ok (.slice none 0 0) w := by kernel_rfl
section
variable {w w' : World} {base b n : Nat} {f : Int → List Int}
theorem Grp.made (w : World) : Grp (w.alloc (.map #[] 0)) (w.heap.size + 1) w.heap.size 0 (fun _ => []) := ⟨.map [], World.ownsGroups_made _ _ _ _ _, isMap_empty, fun _ _ => .inl ⟨rfl, rfl⟩⟩
theorem Grp.congr (h : Grp w base b n f) {g : Int → List Int} (hg : ∀ j, 0 ≤ j → f j = g j) : Grp w base b n g := by
  obtain ⟨D, h1, h2, h3⟩ := h
  exact ⟨D, h1, h2, fun k hk => by rw [← hg k hk]; exact h3 k hk⟩
theorem Grp.more (h : Grp w base b n f) {m : Nat} (hm : n ≤ m) : Grp w base b m f := by
  obtain ⟨D, ⟨es, clock, hb, F, hs, hD, hbb, hlen, hap⟩, hi, hf⟩ := h
  exact ⟨D, ⟨es, clock, hb, F, by omega, hD, hbb, fun x hx zs ho => Nat.le_trans (hlen x hx zs ho) hm, hap⟩, hi, hf⟩
theorem Grp.lt (h : Grp w base b n f) : b < w.heap.size := by
  obtain ⟨D, ⟨es, clock, hb, _⟩, _⟩ := h; exact (Array.getElem?_eq_some_iff.1 hb).1
theorem Grp.below (h : Grp w base b n f) : b < base := by
  obtain ⟨D, ⟨es, clock, hb, F, hs, _, hbb, _⟩, _⟩ := h; exact hbb
/-- Where nothing from b on that was there is another thing, the map is the same. -/
theorem Grp.agree (h : Grp w base b n f) (ha : ∀ k, b ≤ k → k < w.heap.size → w'.heap[k]? = w.heap[k]?) : Grp w' base b n f := by
  obtain ⟨D, ⟨es, clock, hb, F, hs, hD, hbb, hlen, hap⟩, hi, hf⟩ := h
  have hblt : b < w.heap.size := (Array.getElem?_eq_some_iff.1 hb).1
  have keep : ∀ {v : Value} {zs : List Int}, w.ownsInts base 3 .i64 v zs → w'.ownsInts base 3 .i64 v zs := fun {v zs} ho => by
    refine ⟨?_, ho.2⟩
    rcases ho.1 with ⟨hl, h0 | ⟨g, cap, cur, hv, hg, hh, r⟩⟩
    · exact ⟨hl, .inl h0⟩
    · exact ⟨hl, .inr ⟨g, cap, cur, hv, hg, by rw [ha g (by omega) (Array.getElem?_eq_some_iff.1 hh).1]; exact hh, r⟩⟩
  have hst : ∀ x ∈ es.toList, ∀ z, rowElem (H := Unit) w base 3 .i64 x.val = some z → rowElem w' base 3 .i64 x.val = some z := fun x hx z hz => by
    obtain ⟨zs, ho, rfl⟩ := rowElem_inv hz
    exact rowElem_mk (keep ho)
  obtain ⟨F1, hmap, _⟩ := F.stay hst
  refine ⟨D, ⟨es, clock, (ha b (Nat.le_refl _) hblt).trans hb, F1, hs, by rw [hmap]; exact hD, hbb, fun x hx zs ho => ?_, hap⟩, hi, hf⟩
  obtain ⟨y, hy⟩ := F.reads x hx
  obtain ⟨z, hz, _⟩ := rd_val hy
  obtain ⟨zs0, ho0, _⟩ := rowElem_inv hz
  rw [ho.unique (keep ho0)]
  exact hlen x hx zs0 ho0
theorem Grp.ext (h : Grp w base b n f) (hx : Ext w w') : Grp w' base b n f := h.agree fun k _ hk => hx.block k hk
theorem Grp.set (h : Grp w base b n f) (g j : Nat) (v : Value) (hg : g < b) : Grp (w.setCell ⟨g, j, none⟩ v) base b n f :=
  h.agree fun k hk _ => heap_setCell_other w ⟨g, j, none⟩ k v (by simp; omega)
end
theorem wpList_lookupG {w : World} {ops : Array Oper} {rest : List Oper} {o : Oper} {a : Act} {Q : Exit → Act → World → Prop}
    (hg : o.guard = none) (m x : Operand) (hop : o.op = Op.lookup 136 m x false) (base b n : Nat) (f : Int → List Int) (hm : a.eval m = .map (some b)) (hown : Grp w base b n f) (hn : n < maxLen)
    (k : Int) (hx : a.eval x = I k) (h0 : 0 ≤ k) (hk : (Lit.int .i64 k).wf = true)
    (hK : ∀ v, w.ownsInts base 3 .i64 v (f k) → (f k).length ≤ n →
      (∀ (w1 w2 : World) (v' : Value) (x' : Int) (ops' : Array Oper) (rest' : List Oper) (o' : Oper) (a' : Act) (Q' : Exit → Act → World → Prop) (m' y' u' : Operand), o'.guard = none → o'.op = Op.mapUpdate 136 m' y' u' → a'.eval m' = .map (some b) → a'.eval y' = I k → a'.eval u' = v' →
        w.grownBy w1 v.ownBlock → w1.ownsInts base 3 .i64 v' (f k ++ [x']) → (v'.ownBlock = v.ownBlock ∨ ∃ g, v'.ownBlock = some g ∧ w.heap.size ≤ g) →
        (∀ w2, Grp w2 base b (n + 1) (fun j => if j = k then f k ++ [x'] else f j) → w1.grownBy w2 (some b) → wpList Try.prog ops' Q' rest' (a'.put o'.dst undef) w2) → wpList Try.prog ops' Q' (o' :: rest') a' w1) →
      wpList Try.prog ops Q rest (a.put o.dst v) w) : wpList Try.prog ops Q (o :: rest) a w := by
  obtain ⟨D, hD, hi, hf⟩ := hown
  refine wpList_lookup_groups w hg m x _ hop 3 24 3 .i64 grp_law Try.underlying136 (grp_zero w) base b n D hm hD hn (I k) (.int .i64 k) hx (keyOf_int_mk Try.underlying3 hk) fun v zs hat hoi hzl hback => ?_
  have hz : zs = f k := rdIs_one (by have := rdIs_own hoi; rw [← hat] at this; exact this) (hf k h0)
  subst hz
  refine hK v hoi hzl fun w1 _ v' x' ops' rest' o' a' Q' m' y' u' hg' hop' hm' hy' hu' hgr hown' hloc hK' => ?_
  refine wpList_mapUpdate_back w1 hg' m' y' u' _ hop' hback hm' hy' hu' hgr hown' (by simp; omega) hloc fun w2 hown2 hgr2 => ?_
  refine hK' w2 ⟨_, hown2, hi.put _ _, fun j hj => ?_⟩ hgr2
  by_cases e : j = k
  · subst e; rw [atKey_put_same hi (grp_key j)]; simp only [if_true]; exact rdIs_own hown'
  · rw [atKey_put_other (fun h => e (by injection h))]; simp only [e, if_false]; exact hf j hj
end Go.Proofs.Ytjagbnaacfhokaa
