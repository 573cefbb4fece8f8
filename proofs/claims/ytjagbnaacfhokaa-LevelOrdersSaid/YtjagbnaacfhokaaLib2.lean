/- More words on memory: rows made shorter; an append a little beyond what came in. No program in sight. -/
import Derived.Test.YtjagbnaacfhokaaLib
namespace Go.Proofs.Ytjagbnaacfhokaa
set_option linter.unusedVariables false
set_option linter.unusedSimpArgs false
open Go.RowKit

/-- The front of an own row. -/
theorem own_take {w : World} {base : Nat} {e : TypeId} {g n c : Nat} {xs : List Value} (h : w.ownsRow base e 1 (.slice (some ⟨g, 0, none⟩) n c) n xs) {m : Nat} (hm : m ≤ n) :
    w.ownsRow base e 1 (.slice (some ⟨g, 0, none⟩) m c) m (xs.take m) := by
  obtain ⟨hl, ⟨h0, _⟩ | ⟨g', cap, cur, hv, hb, hg, hnc, hcm, hcs, ht⟩⟩ := h
  · cases h0
  · injection hv with h1 h2 h3
    injection h1 with h1; injection h1 with h1
    subst h1; subst h3
    refine ⟨by simp; omega, .inr ⟨g, c, cur, rfl, hb, hg, by omega, hcm, hcs, ?_⟩⟩
    rw [← ht, List.take_take]; congr 1; omega
theorem own_drop_last {w : World} {base : Nat} {e : TypeId} {g n c : Nat} {ys : List Value} {y : Value} (h : w.ownsRow base e 1 (.slice (some ⟨g, 0, none⟩) (n + 1) c) (n + 1) (ys ++ [y])) :
    w.ownsRow base e 1 (.slice (some ⟨g, 0, none⟩) n c) n ys ∧ w.cell? ⟨g, n, none⟩ = some y := by
  have hl : ys.length = n := by have := h.1; simp at this; omega
  refine ⟨?_, ?_⟩
  · have := own_take h (Nat.le_succ n)
    rwa [List.take_left' hl] at this
  · rw [h.cellAt n (by omega), List.getElem?_append_right (by omega), hl]; simp
theorem growslice_big {need old bytes : Nat} (h : old < need) (hb : need * bytes ≤ 140737489403904) (h8 : bytes ≤ 65536) : Builtin.nextslicecap need old * bytes ≤ 281474976710656 := by
  have h1 : Builtin.nextslicecap need old ≤ need + need / 4 + 1024 ∨ Builtin.nextslicecap need old ≤ 512 := by
    unfold Builtin.nextslicecap
    split
    · omega
    · split
      · omega
      · rw [growBy_four]
        repeat' split
        all_goals omega
  rcases h1 with h1 | h1
  · have h2 : Builtin.nextslicecap need old * bytes ≤ (need + need / 4 + 1024) * bytes := Nat.mul_le_mul_right _ h1
    have h3 : need / 4 * bytes ≤ need * bytes := Nat.mul_le_mul_right _ (Nat.div_le_self _ _)
    have h3' : need / 4 * bytes * 4 ≤ need * bytes := by rw [Nat.mul_right_comm]; exact Nat.mul_le_mul_right _ (Nat.div_mul_le_self _ _)
    have h4 : 1024 * bytes ≤ 67108864 := by omega
    rw [Nat.add_mul, Nat.add_mul] at h2
    omega
  · have h2 : Builtin.nextslicecap need old * bytes ≤ 512 * bytes := Nat.mul_le_mul_right _ h1
    omega
/-- append of all of a slice of one-cell elements onto a row of the call's own; the row may be a little longer than what came in. -/
theorem wpList_appendBig {P : Program} {ops : Array Oper} {rest : List Oper} {o : Oper} {a : Act} {Q : Exit → Act → World → Prop} {w : World} (hgd : o.guard = none) (s x : Operand) (t e : TypeId)
    (ho : o.op = .call { callee := .builtin .append, args := #[s, x], argTypes := #[t, t] })
    {z : Value} {bytes : Nat} (tab : (P.info? e).map (fun i => (i.zero, i.size, i.bytes)) = some (some z, 1, bytes)) (ht : P.underlying t = some (.slice e)) (hzs : z.cells.size = 1) (h8 : bytes ≤ 65536)
    (W0 : World) (hext : Ext W0 w) (v : Value) (n : Nat) (xs : List Value) (hs : a.eval s = v) (hown : w.ownsRow W0.heap.size e 1 v n xs)
    (A : Option Addr) (m c : Nat) (news : List Value) (hx : a.eval x = .slice A m c) (hr : Sl w A m news) (h1 : ∀ u ∈ news, u.oneCell' = true)
    (hbytes : (n + m) * bytes ≤ 140737489403904) (hm4 : n + m ≤ 9007199254740992)
    (h : ∀ v' w', w'.ownsRow W0.heap.size e 1 v' (n + m) (xs ++ news) → Ext W0 w' → w.grownBy w' v.ownBlock → (∀ k, v'.ownBlock = some k → v.ownBlock = some k ∨ w.heap.size ≤ k) → wpList P ops Q rest (a.put o.dst v') w') : wpList P ops Q (o :: rest) a w := by
  have h63 : n + m ≤ maxLen := by unfold maxLen; omega
  obtain ⟨i, hi, hz, hs1, hs2⟩ := info_parts tab
  have hb : ∀ k, v.ownBlock = some k → W0.heap.size ≤ k := fun k hk => (hown.lt k hk).1
  rcases Nat.eq_zero_or_pos m with hm0 | hmp
  · subst hm0
    have hn : news = [] := List.eq_nil_of_length_eq_zero hr.1
    subst hn
    refine wpList_plain hgd fun K hK => ?_
    have hrun : (Builtin.append_ #[t, t] o.type #[v, .slice A 0 c]).run P w = .ok v w := by
      rcases hown.2 with ⟨rfl, rfl⟩ | ⟨g, cap, cur, rfl, _, _, hnc, _⟩
      · simp [Builtin.append_, run_underlying ht, sizeOf, typeInfo, hi, Builtin.lenOf, Builtin.firstCells, loadCells, loadCellsFrom]
        try (cases A <;> simp [Builtin.firstCells, loadCells, loadCellsFrom])
      · simp [Builtin.append_, run_underlying ht, sizeOf, typeInfo, hi, Builtin.lenOf, hnc]
        cases A <;> simp [Builtin.firstCells, loadCells, loadCellsFrom, storeCells]
    unfold Oper.wp execOp
    simp only [ho, resolve, invoke, builtin, Sem.run_bind, Sem.run_pure, Result.andThen_ok, List.map_toArray, List.map_cons, List.map_nil, hs, hx, hrun]
    exact hK _ _ (h v w (by simpa using hown) hext (World.grownBy.refl w _) (fun k hk => .inl hk))
  obtain ⟨b, off, rfl⟩ : ∃ b off, A = some ⟨b, off, none⟩ := by
    have hl : 0 < news.length := by rw [hr.1]; exact hmp
    obtain ⟨b, off, e2, _⟩ := hr.2 0 _ (List.getElem?_eq_getElem hl)
    exact ⟨b, off, e2⟩
  have hcells : ∀ j u, news[j]? = some u → w.cell? ((⟨b, off, none⟩ : Addr).add j) = some u := by
    intro j u hu
    obtain ⟨b', off', e2, hc⟩ := hr.2 j u hu
    injection e2 with e2; injection e2 with e2 e3
    subst e2; subst e3
    rw [add_plain']; exact hc
  have hnl : news.length = m * i.size := by rw [hs1, hr.1]; omega
  have hlen : (xs ++ news).length = (n + m) * 1 := by have := hown.1; have := hr.1; simp; omega
  have grown : ∀ (old : Nat), old < n + m → ∀ (row : Option Nat),
      (w.drew.alloc (.cells (xs.toArray ++ news.toArray ++ Builtin.zeroCells z.cells (grownCap w (n + m) old e - (n + m))) e)).ownsRow W0.heap.size e 1
        (.slice (some ⟨w.heap.size, 0, none⟩) (n + m) (grownCap w (n + m) old e)) (n + m) (xs ++ news) ∧
      w.grownBy (w.drew.alloc (.cells (xs.toArray ++ news.toArray ++ Builtin.zeroCells z.cells (grownCap w (n + m) old e - (n + m))) e)) row := by
    intro old ho' row
    have hge := grownCap_ge w (n + m) old e
    refine ⟨⟨hlen, .inr ⟨w.heap.size, _, _, rfl, hext.size, heap_alloc_new w.drew _, hge, grownCap_le_maxLen w (n + m) old e h63, ?_, ?_⟩⟩, ⟨rfl, rfl, rfl, by simp, fun k hk _ => Below.heap_alloc w.drew _ k hk⟩⟩
    · simp only [Array.size_append, List.size_toArray, size_zeroCells, hzs, hown.1, hr.1, Nat.mul_one]
      omega
    · simp only [Array.toList_append, List.append_assoc]
      rw [← List.append_assoc, ← hlen]
      exact List.take_left
  have hres : ∃ v' w', (Builtin.append_ #[t, t] o.type #[v, .slice (some ⟨b, off, none⟩) m c]).run P w = .ok v' w' ∧ w'.ownsRow W0.heap.size e 1 v' (n + m) (xs ++ news) ∧ w.grownBy w' v.ownBlock ∧ (∀ k, v'.ownBlock = some k → v.ownBlock = some k ∨ w.heap.size ≤ k) := by
    rcases hown.2 with ⟨rfl, rfl⟩ | ⟨g, cap, cur, rfl, hbg, hg, hnc, hcm, hcs, htake⟩
    · have hx0 : xs = [] := List.eq_nil_of_length_eq_zero (by simpa using hown.1)
      subst hx0
      have hr0 := run_append_nil (P := P) w t o.type e i z ht hi hz ⟨b, off, none⟩ m c news hnl hcells hmp (by omega) (by rw [hs2]; simp only [Nat.zero_add] at hbytes; omega)
      have hgr := grown 0 (by omega) (Value.ownBlock (.slice none 0 0))
      simp only [Nat.zero_add, List.nil_append, Array.empty_append] at hgr ⊢
      exact ⟨_, _, hr0, hgr.1, hgr.2, fun k hk => .inr (by simp [Value.ownBlock] at hk; omega)⟩
    · by_cases hroom : n + m ≤ cap
      · have hfit : n * i.size + news.length ≤ cur.size := by rw [hs1, hr.1, hcs]; omega
        have hr0 := run_append_room (P := P) w t o.type e i ht hi g n cap cur hg ⟨b, off, none⟩ m c news hnl hcells h1 hroom hfit
        refine ⟨_, _, hr0, ⟨hlen, .inr ⟨g, cap, _, rfl, hbg, setRow_heap w g cur _ e _ hg, hroom, hcm, ?_, ?_⟩⟩, ⟨rfl, rfl, rfl, by simp, fun k _ hk => setRow_other w g k _ (fun e => hk (by simp [Value.ownBlock, e]))⟩, fun k hk => .inl hk⟩
        · rw [hs1] at *
          simp only [List.size_toArray, List.length_append, List.length_take, List.length_drop, Array.length_toList]
          omega
        · rw [hs1, htake, ← hlen]
          exact List.take_left
      · have holds : ∀ j u, xs[j]? = some u → w.cell? ((⟨g, 0, none⟩ : Addr).add j) = some u := hown.cells (g := g) rfl
        have hr0 := run_append_grow (P := P) w t o.type e i z ht hi hz ⟨g, 0, none⟩ n cap xs (by rw [hs1]; exact hown.1) holds ⟨b, off, none⟩ m c news hnl hcells (by omega) (by omega) (by rw [hs2]; exact growslice_big (by omega) hbytes h8)
        have hgr := grown cap (by omega) (Value.ownBlock (.slice (some ⟨g, 0, none⟩) n cap))
        exact ⟨_, _, hr0, hgr.1, hgr.2, fun k hk => .inr (by simp [Value.ownBlock] at hk; omega)⟩
  obtain ⟨v', w', hrun, k1, k2, k3⟩ := hres
  refine wpList_plain hgd fun K hK => ?_
  unfold Oper.wp execOp
  simp only [ho, resolve, invoke, builtin, Sem.run_bind, Sem.run_pure, Result.andThen_ok, List.map_toArray, List.map_cons, List.map_nil, hs, hx, hrun]
  exact hK _ _ (h v' w' k1 (Below.grown hext k2 hext.size hb) k2 k3)
/-- One place of an own row is written; another own row stays. -/
theorem own_other {w : World} {base : Nat} {e : TypeId} {size n : Nat} {v : Value} {xs : List Value} (h : w.ownsRow base e size v n xs) {g j : Nat} {u : Value} (hg : v.ownBlock ≠ some g) : (w.setCell ⟨g, j, none⟩ u).ownsRow base e size v n xs := by
  refine h.kept (row := some g) ⟨rfl, rfl, rfl, by simp, fun k _ hk => heap_setCell_other w ⟨g, j, none⟩ k u (fun e => hk (by simp [e]))⟩ (.inr hg)
end Go.Proofs.Ytjagbnaacfhokaa
