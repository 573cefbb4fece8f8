/- A row of one-cell elements of the call's own that may begin within its block: a queue. No program in sight. -/
import Derived.Test.YtjagbnaacfhokaaLib2
namespace Go.Proofs.Ytjagbnaacfhokaa
set_option linter.unusedVariables false
set_option linter.unusedSimpArgs false
open Go.RowKit

theorem frozen_keep {w w' w2 : World} {p : Addr} {u : Value} {row : Option Nat} (hg : w'.grownBy w2 row) (hx : Ext w w') (hc : w.cell? p = some u) (hne : some p.block ≠ row) : w2.frozen? p = w.frozen? p :=
  (World.frozen?_of_block (hg.block p.block (Nat.lt_of_lt_of_le (lt_of_cell hc) hx.size) hne)).trans (World.frozen?_of_block (hx.block p.block (lt_of_cell hc)))
/-- All that was there is as it was, but for two blocks; new memory may have come. -/
structure Aside (g1 g2 : Nat) (w w' : World) : Prop where
  os : w'.os = w.os
  tape : w'.tape = w.tape
  output : w'.output = w.output
  size : w.heap.size ≤ w'.heap.size
  block : ∀ k, k < w.heap.size → k ≠ g1 → k ≠ g2 → w'.heap[k]? = w.heap[k]?
section
variable {g1 g2 : Nat} {a b c : World}
theorem Aside.refl (g1 g2 : Nat) (w : World) : Aside g1 g2 w w := ⟨rfl, rfl, rfl, Nat.le_refl _, fun _ _ _ _ => rfl⟩
theorem Aside.more (h : Aside g1 g2 a b) (k : Ext b c) : Aside g1 g2 a c :=
  ⟨k.os.trans h.os, k.tape.trans h.tape, k.output.trans h.output, Nat.le_trans h.size k.size, fun i hi h1 h2 => (k.block i (Nat.lt_of_lt_of_le hi h.size)).trans (h.block i hi h1 h2)⟩
theorem Aside.set1 (h : Aside g1 g2 a b) (j : Nat) (v : Value) : Aside g1 g2 a (b.setCell ⟨g1, j, none⟩ v) :=
  ⟨h.os, h.tape, h.output, by simpa using h.size, fun i hi h1 h2 => by rw [heap_setCell_other b ⟨g1, j, none⟩ i v h1]; exact h.block i hi h1 h2⟩
theorem Aside.grown {row : Option Nat} (h : Aside g1 g2 a b) (hg : b.grownBy c row) (hr : ∀ k, row = some k → k = g2 ∨ a.heap.size ≤ k) : Aside g1 g2 a c :=
  ⟨hg.os.trans h.os, hg.tape.trans h.tape, hg.output.trans h.output, Nat.le_trans h.size hg.size, fun i hi h1 h2 => (hg.block i (Nat.lt_of_lt_of_le hi h.size) (fun e => by rcases hr i e.symm with q | q <;> omega)).trans (h.block i hi h1 h2)⟩
theorem Aside.cell (h : Aside g1 g2 a b) {p : Addr} {u : Value} (hc : a.cell? p = some u) (h1 : p.block ≠ g1) (h2 : p.block ≠ g2) : b.cell? p = some u :=
  (World.cell?_of_block (h.block p.block (lt_of_cell hc) h1 h2)).trans hc
theorem Aside.ext {w0 : World} (h : Aside g1 g2 a b) (e : Ext w0 a) (h1 : w0.heap.size ≤ g1) (h2 : w0.heap.size ≤ g2) : Ext w0 b :=
  ⟨h.os.trans e.os, h.tape.trans e.tape, h.output.trans e.output, Nat.le_trans e.size h.size, fun i hi => (h.block i (Nat.lt_of_lt_of_le hi e.size) (by omega) (by omega)).trans (e.block i hi)⟩
end
theorem Sl.aside {g1 g2 : Nat} {a b : World} {A : Option Addr} {n : Nat} {cs : List Value} (h : Sl a A n cs) (k : Aside g1 g2 a b) (hA : ∀ p, A = some p → p.block ≠ g1 ∧ p.block ≠ g2) : Sl b A n cs :=
  ⟨h.1, fun j u hu => let ⟨q, o, e, hc⟩ := h.2 j u hu; ⟨q, o, e, k.cell hc (hA _ e).1 (hA _ e).2⟩⟩
theorem set_same {α : Type} {l : List α} {j : Nat} {x : α} (h : l[j]? = some x) : l.set j x = l := by
  refine List.ext_getElem? fun i => ?_
  rw [List.getElem?_set]
  by_cases e : j = i
  · subst e; rw [if_pos rfl, if_pos (List.getElem?_eq_some_iff.1 h).1, h]
  · rw [if_neg e]
theorem grownBy_set (w : World) (g j : Nat) (v : Value) : w.grownBy (w.setCell ⟨g, j, none⟩ v) (some g) :=
  ⟨rfl, rfl, rfl, by simp, fun i _ hi => heap_setCell_other w ⟨g, j, none⟩ i v (fun e => hi (by simp [e]))⟩
theorem pick_block {s : Value} {gv lo hi B : Nat} (h1 : s.ownBlock ≠ some gv) (h2 : ∀ b, s.ownBlock = some b → B ≤ b ∧ b < lo) (hgv : gv < hi) (hB : B ≤ hi) :
    ∃ b0, (∀ b, s.ownBlock = some b → b = b0) ∧ b0 ≠ gv ∧ B ≤ b0 ∧ ∀ j, lo ≤ j → j < hi → j ≠ b0 := by
  cases hb : s.ownBlock with
  | none => exact ⟨hi, fun b e => by simp at e, by omega, hB, fun j _ h => by omega⟩
  | some b =>
    have := h2 b hb
    exact ⟨b, fun b' e => (Option.some.inj e).symm, fun e => h1 (by rw [hb, e]), this.1, fun j h _ => by omega⟩
def OwnQ (w : World) (base : Nat) (e : TypeId) (v : Value) (xs : List Value) : Prop :=
  (v = .slice none 0 0 ∧ xs = []) ∨ ∃ g off cap cur, v = .slice (some ⟨g, off, none⟩) xs.length cap ∧ base ≤ g ∧ w.heap[g]? = some (.cells cur e (0, 0)) ∧ xs.length ≤ cap ∧ cap ≤ maxLen ∧ off + cap ≤ cur.size ∧ (cur.toList.drop off).take xs.length = xs
section
variable {w w' : World} {base : Nat} {e : TypeId} {v : Value} {n : Nat} {xs : List Value}
theorem OwnQ.of_own (h : w.ownsRow base e 1 v n xs) : OwnQ w base e v xs := by
  rcases h with ⟨hl, ⟨rfl, rfl⟩ | ⟨g, cap, cur, rfl, hb, hg, hnc, hm, hcs, ht⟩⟩
  · exact .inl ⟨rfl, List.eq_nil_of_length_eq_zero (by simpa using hl)⟩
  · have hn : xs.length = n := by omega
    refine .inr ⟨g, 0, cap, cur, by rw [hn], hb, hg, by omega, hm, by omega, ?_⟩
    rw [List.drop_zero, hn]; simpa using ht
theorem OwnQ.lt (h : OwnQ w base e v xs) : ∀ k, v.ownBlock = some k → base ≤ k ∧ k < w.heap.size := by
  intro k hk
  rcases h with ⟨rfl, _⟩ | ⟨g, off, cap, cur, rfl, hb, hg, _⟩
  · simp [Value.ownBlock] at hk
  · simp [Value.ownBlock] at hk
    subst hk
    exact ⟨hb, (Array.getElem?_eq_some_iff.1 hg).1⟩
theorem OwnQ.kept {row : Option Nat} (h : OwnQ w base e v xs) (hg : w.grownBy w' row) (hne : v.ownBlock = none ∨ v.ownBlock ≠ row) : OwnQ w' base e v xs := by
  rcases h with h | ⟨g, off, cap, cur, rfl, hb, hgg, rest⟩
  · exact .inl h
  · refine .inr ⟨g, off, cap, cur, rfl, hb, ?_, rest⟩
    rw [hg.block g (Array.getElem?_eq_some_iff.1 hgg).1 (by simpa [Value.ownBlock] using hne)]
    exact hgg
theorem OwnQ.ext (h : OwnQ w base e v xs) (hx : Ext w w') : OwnQ w' base e v xs := by
  rcases h with h | ⟨g, off, cap, cur, rfl, hb, hgg, rest⟩
  · exact .inl h
  · exact .inr ⟨g, off, cap, cur, rfl, hb, (hx.block g (Array.getElem?_eq_some_iff.1 hgg).1).trans hgg, rest⟩
theorem OwnQ.cell {g off cap : Nat} (h : OwnQ w base e (.slice (some ⟨g, off, none⟩) n cap) xs) : ∀ j u, xs[j]? = some u → w.cell? ⟨g, off + j, none⟩ = some u := by
  intro j u hu
  rcases h with ⟨h0, _⟩ | ⟨g', off', cap', cur, hv, _, hgg, _, _, _, ht⟩
  · cases h0
  · injection hv with h1 _ _
    injection h1 with h1; injection h1 with h1 h2
    subst h1; subst h2
    rw [cell_of_row w g (off + j) cur e (0, 0) hgg]
    rw [← ht, List.getElem?_take] at hu
    split at hu
    · rw [List.getElem?_drop] at hu; simpa using hu
    · cases hu
theorem OwnQ.slice (h : OwnQ w base e v xs) : ∃ A c, v = .slice A xs.length c ∧ xs.length ≤ c ∧ c ≤ maxLen ∧ Sl w A xs.length xs := by
  have h' := h
  rcases h with ⟨rfl, rfl⟩ | ⟨g, off, cap, cur, rfl, _, hgg, hnc, hm, _, _⟩
  · exact ⟨none, 0, rfl, Nat.le_refl _, Nat.zero_le _, Sl.nil _ _⟩
  · exact ⟨_, _, rfl, hnc, hm, rfl, fun k u hu => ⟨g, off, rfl, h'.cell k u hu⟩⟩
/-- The first is taken off. -/
theorem OwnQ.tail {x : Value} (h : OwnQ w base e v (x :: xs)) : ∃ g off c, v = .slice (some ⟨g, off, none⟩) (xs.length + 1) c ∧ xs.length + 1 ≤ c ∧ c ≤ maxLen ∧ w.cell? ⟨g, off, none⟩ = some x ∧
    OwnQ w base e (.slice (some (if c = 1 then ⟨g, off, none⟩ else ⟨g, off + 1, none⟩)) xs.length (c - 1)) xs := by
  have h' := h
  rcases h with ⟨_, h0⟩ | ⟨g, off, cap, cur, rfl, hb, hgg, hnc, hm, hcs, ht⟩
  · cases h0
  · simp only [List.length_cons] at hnc ht ⊢
    refine ⟨g, off, cap, rfl, hnc, hm, by simpa using h'.cell 0 x (by simp), ?_⟩
    by_cases h1 : cap = 1
    · rw [if_pos h1]
      have : xs = [] := List.eq_nil_of_length_eq_zero (by omega)
      subst this
      exact .inr ⟨g, off, cap - 1, cur, rfl, hb, hgg, by simp, by omega, by omega, by simp⟩
    · rw [if_neg h1]
      refine .inr ⟨g, off + 1, cap - 1, cur, rfl, hb, hgg, by omega, by omega, by omega, ?_⟩
      have e1 : cur.toList.drop (off + 1) = (cur.toList.drop off).tail := by rw [List.tail_drop]
      have e2 : ∀ (l : List Value) (n : Nat), l.tail.take n = (l.take (n + 1)).tail := fun l n => by cases l <;> simp
      rw [e1, e2, ht]; rfl
end

/-- append onto such a row. -/
theorem OwnQ.append {P : Program} {w : World} (t ty e : TypeId) {z : Value} {bytes : Nat} (tab : (P.info? e).map (fun i => (i.zero, i.size, i.bytes)) = some (some z, 1, bytes)) (ht : P.underlying t = some (.slice e)) (hzs : z.cells.size = 1) (h8 : bytes ≤ 65536)
    {base : Nat} (hbase : base ≤ w.heap.size) {v : Value} {xs : List Value} (hown : OwnQ w base e v xs) (A : Option Addr) (m c : Nat) (news : List Value) (hr : Sl w A m news) (h1 : ∀ u ∈ news, u.oneCell' = true)
    (hbytes : (xs.length + m) * bytes ≤ 140737489403904) (hm4 : xs.length + m ≤ 9007199254740992) :
    ∃ v' w', (Builtin.append_ #[t, t] ty #[v, .slice A m c]).run P w = .ok v' w' ∧ OwnQ w' base e v' (xs ++ news) ∧ w.grownBy w' v.ownBlock ∧ ∀ k, v'.ownBlock = some k → v.ownBlock = some k ∨ w.heap.size ≤ k := by
  have h63 : xs.length + m ≤ maxLen := by unfold maxLen; omega
  obtain ⟨i, hi, hz, hs1, hs2⟩ := info_parts tab
  rcases Nat.eq_zero_or_pos m with hm0 | hmp
  · subst hm0
    have hn : news = [] := List.eq_nil_of_length_eq_zero hr.1
    subst hn
    refine ⟨v, w, ?_, by simpa using hown, World.grownBy.refl w _, fun k hk => .inl hk⟩
    rcases hown with ⟨rfl, rfl⟩ | ⟨g, off, cap, cur, rfl, _, _, hnc, _⟩
    · simp [Builtin.append_, run_underlying ht, sizeOf, typeInfo, hi, Builtin.lenOf, Builtin.firstCells, loadCells, loadCellsFrom]
      try (cases A <;> simp [Builtin.firstCells, loadCells, loadCellsFrom])
    · simp [Builtin.append_, run_underlying ht, sizeOf, typeInfo, hi, Builtin.lenOf, hnc]
      cases A <;> simp [Builtin.firstCells, loadCells, loadCellsFrom, storeCells]
  obtain ⟨b, off0, rfl⟩ : ∃ b off, A = some ⟨b, off, none⟩ := by
    have hl : 0 < news.length := by rw [hr.1]; exact hmp
    obtain ⟨b, off, e2, _⟩ := hr.2 0 _ (List.getElem?_eq_getElem hl)
    exact ⟨b, off, e2⟩
  have hcells : ∀ j u, news[j]? = some u → w.cell? ((⟨b, off0, none⟩ : Addr).add j) = some u := by
    intro j u hu
    obtain ⟨b', off', e2, hc⟩ := hr.2 j u hu
    injection e2 with e2; injection e2 with e2 e3
    subst e2; subst e3
    rw [add_plain']; exact hc
  have hnl : news.length = m * i.size := by rw [hs1, hr.1]; omega
  have hlen : (xs ++ news).length = xs.length + m := by rw [List.length_append, hr.1]
  have grown : ∀ (old : Nat) (row : Option Nat),
      OwnQ (w.drew.alloc (.cells (xs.toArray ++ news.toArray ++ Builtin.zeroCells z.cells (grownCap w (xs.length + m) old e - (xs.length + m))) e)) base e
        (.slice (some ⟨w.heap.size, 0, none⟩) (xs.length + m) (grownCap w (xs.length + m) old e)) (xs ++ news) ∧
      w.grownBy (w.drew.alloc (.cells (xs.toArray ++ news.toArray ++ Builtin.zeroCells z.cells (grownCap w (xs.length + m) old e - (xs.length + m))) e)) row := by
    intro old row
    have hge := grownCap_ge w (xs.length + m) old e
    refine ⟨.inr ⟨w.heap.size, 0, _, _, by rw [hlen], hbase, heap_alloc_new w.drew _, by rw [hlen]; exact hge, grownCap_le_maxLen w _ old e h63, ?_, ?_⟩, ⟨rfl, rfl, rfl, by simp, fun k hk _ => Below.heap_alloc w.drew _ k hk⟩⟩
    · simp only [Array.size_append, List.size_toArray, size_zeroCells, hzs, hr.1, Nat.mul_one]
      omega
    · simp only [Array.toList_append, List.append_assoc, List.drop_zero]
      rw [← List.append_assoc]
      exact List.take_left
  rcases hown with ⟨rfl, rfl⟩ | ⟨g, off, cap, cur, rfl, hbg, hg, hnc, hcm, hcs, htake⟩
  · have hr0 := run_append_nil (P := P) w t ty e i z ht hi hz ⟨b, off0, none⟩ m c news hnl hcells hmp (by omega) (by rw [hs2]; simp only [List.length_nil, Nat.zero_add] at hbytes; omega)
    have hgr := grown 0 (Value.ownBlock (.slice none 0 0))
    simp only [List.length_nil, Nat.zero_add, List.nil_append, Array.empty_append] at hgr ⊢
    exact ⟨_, _, hr0, hgr.1, hgr.2, fun k hk => .inr (by simp [Value.ownBlock] at hk; omega)⟩
  · by_cases hroom : xs.length + m ≤ cap
    · have hf := run_firstCells_some (P := P) w i.size m ⟨b, off0, none⟩ m c news hnl hcells
      have hst := run_storeCells_at P g (off + xs.length) e news 0 cur w hg (by rw [hr.1]; omega) h1
      simp only [Nat.add_zero] at hst
      have hrun : (Builtin.append_ #[t, t] ty #[.slice (some ⟨g, off, none⟩) xs.length cap, .slice (some ⟨b, off0, none⟩) m c]).run P w =
          .ok (.slice (some ⟨g, off, none⟩) (xs.length + m) cap) (w.setRow g (cur.toList.take (off + xs.length) ++ news ++ cur.toList.drop (off + xs.length + news.length)).toArray) := by
        rw [hs1] at hf
        simp [Builtin.append_, run_underlying ht, sizeOf, typeInfo, hi, hs1, Builtin.lenOf, hroom, hf, add_plain', hst]
      refine ⟨_, _, hrun, .inr ⟨g, off, cap, _, by rw [hlen], hbg, setRow_heap w g cur _ e _ hg, by rw [hlen]; exact hroom, hcm, ?_, ?_⟩, ⟨rfl, rfl, rfl, by simp, fun k _ hk => setRow_other w g k _ (fun e => hk (by simp [Value.ownBlock, e]))⟩, fun k hk => .inl hk⟩
      · have := hr.1
        simp only [List.size_toArray, List.length_append, List.length_take, List.length_drop, Array.length_toList]
        omega
      · have h2 : off ≤ (cur.toList.take (off + xs.length)).length := by simp; omega
        have h3 : (cur.toList.take (off + xs.length)).drop off = xs := by rw [List.drop_take, Nat.add_sub_cancel_left]; exact htake
        simp only [List.append_assoc]
        rw [List.drop_append_of_le_length h2, h3, ← List.append_assoc]
        exact List.take_left
    · have holds : ∀ j u, xs[j]? = some u → w.cell? ((⟨g, off, none⟩ : Addr).add j) = some u := fun j u hu => by
        rw [add_plain']
        exact OwnQ.cell (.inr ⟨g, off, cap, cur, rfl, hbg, hg, hnc, hcm, hcs, htake⟩ : OwnQ w base e (.slice (some ⟨g, off, none⟩) xs.length cap) xs) j u hu
      have hr0 := run_append_grow (P := P) w t ty e i z ht hi hz ⟨g, off, none⟩ xs.length cap xs (by rw [hs1]; omega) holds ⟨b, off0, none⟩ m c news hnl hcells (by omega) (by omega) (by rw [hs2]; exact growslice_big (by omega) hbytes h8)
      have hgr := grown cap (Value.ownBlock (.slice (some ⟨g, off, none⟩) xs.length cap))
      exact ⟨_, _, hr0, hgr.1, hgr.2, fun k hk => .inr (by simp [Value.ownBlock] at hk; omega)⟩
/-- The same in a walk. -/
theorem wpList_appendQ {P : Program} {ops : Array Oper} {rest : List Oper} {o : Oper} {a : Act} {Q : Exit → Act → World → Prop} {w : World} (hgd : o.guard = none) (s x : Operand) (t e : TypeId)
    (ho : o.op = .call { callee := .builtin .append, args := #[s, x], argTypes := #[t, t] })
    {z : Value} {bytes : Nat} (tab : (P.info? e).map (fun i => (i.zero, i.size, i.bytes)) = some (some z, 1, bytes)) (ht : P.underlying t = some (.slice e)) (hzs : z.cells.size = 1) (h8 : bytes ≤ 65536)
    (base : Nat) (hbase : base ≤ w.heap.size) (v : Value) (xs : List Value) (hs : a.eval s = v) (hown : OwnQ w base e v xs)
    (A : Option Addr) (m c : Nat) (news : List Value) (hx : a.eval x = .slice A m c) (hr : Sl w A m news) (h1 : ∀ u ∈ news, u.oneCell' = true)
    (hbytes : (xs.length + m) * bytes ≤ 140737489403904) (hm4 : xs.length + m ≤ 9007199254740992)
    (h : ∀ v' w', OwnQ w' base e v' (xs ++ news) → w.grownBy w' v.ownBlock → (∀ k, v'.ownBlock = some k → v.ownBlock = some k ∨ w.heap.size ≤ k) → wpList P ops Q rest (a.put o.dst v') w') : wpList P ops Q (o :: rest) a w := by
  obtain ⟨v', w', hrun, k1, k2, k3⟩ := OwnQ.append t o.type e tab ht hzs h8 hbase hown A m c news hr h1 hbytes hm4
  refine wpList_plain hgd fun K hK => ?_
  unfold Oper.wp execOp
  simp only [ho, resolve, invoke, builtin, Sem.run_bind, Sem.run_pure, Result.andThen_ok, List.map_toArray, List.map_cons, List.map_nil, hs, hx, hrun]
  exact hK _ _ (h v' w' k1 k2 k3)
end Go.Proofs.Ytjagbnaacfhokaa
