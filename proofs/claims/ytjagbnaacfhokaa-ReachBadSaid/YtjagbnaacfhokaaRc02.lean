/- A net that is read as data opens to the words of NetLib. -/
import Derived.Test.YtjagbnaacfhokaaRc01
import Derived.Lib.SmallJoins
namespace Go.Proofs.Ytjagbnaacfhokaa
set_option linter.unusedVariables false
set_option linter.unusedSimpArgs false
open Go.ChangeShapes Go.WideShapes Go.Deep Go.RowKit Go.Joins

theorem list_of {α : Type} {Q : Nat → α → Prop} (len : Nat) (h : ∀ i, i < len → ∃ y, Q i y) : ∃ p : List α, p.length = len ∧ ∀ i y, p[i]? = some y → Q i y := by
  have : ∀ m, m ≤ len → ∃ p : List α, p.length = m ∧ ∀ i y, p[i]? = some y → Q i y := by
    intro m
    induction m with
    | zero => exact fun _ => ⟨[], rfl, by simp⟩
    | succ m ih =>
      intro hm
      obtain ⟨p, hp, hp2⟩ := ih (by omega)
      obtain ⟨y, hy⟩ := h m (by omega)
      refine ⟨p ++ [y], by simp [hp], fun i z hz => ?_⟩
      rw [List.getElem?_append] at hz
      split at hz
      · exact hp2 i z hz
      · have hi : i = m := by
          rcases Nat.eq_or_lt_of_le (show m ≤ i by omega) with e | e
          · exact e.symm
          · rw [List.getElem?_eq_none (by simp; omega)] at hz; cases hz
        subst hi
        simp [hp] at hz; subst hz
        exact hy
  exact this len (Nat.le_refl _)
theorem spot_of {w : World} {a : Addr} {k : Nat} {u : Value} (h : w.cell? (a.add k) = some u) (hk : k = 0) : ∃ b o, a = ⟨b, o, none⟩ := by
  have hs := spot_none h hk
  obtain ⟨b, o, s⟩ := a
  subst hs
  exact ⟨b, o, rfl⟩

section
variable {H : Type} {enc : TypeId × Value → H} {w : World} {base : Nat} {held : Bool} {fuel : Nat}
theorem open_sl {v : Value} {x : DataW H × List MemPlace} (h : DataW.trod enc Try.prog w base (fun _ => true) held fuel 24 [v] = some x) :
    ∃ (A : Option Addr) (n c : Nat) (zs : List Int), v = .slice A n c ∧ Sl w A n (zs.map I) ∧ n ≤ c ∧ c ≤ maxLen ∧ ∀ z ∈ zs, (Lit.int .i64 z).wf = true := by
  rcases open_ints Try.underlying24 Try.underlying3 (by kernel_rfl) h with ⟨hcs, _⟩ | ⟨x, l, c, zs, hcs, _, hl, hm, hz, hx, hcell, hwz⟩
  · simp at hcs; subst hcs
    exact ⟨none, 0, 0, [], rfl, Sl.nil _ _, Nat.le_refl _, Nat.zero_le _, by simp⟩
  · simp at hcs; subst hcs
    simp only [if_true] at hz
    exact ⟨some x, l, c, zs.take l, rfl, sl_of_row hl (by simpa using hz) hcell, hl, hm, fun n hn => hwz n (List.mem_of_mem_take hn)⟩
theorem open_gates {v : Value} {x : DataW H × List MemPlace} (h : DataW.trod enc Try.prog w base (fun _ => true) held fuel 22 [v] = some x) :
    ∃ (A : Option Addr) (n c : Nat) (gs : List GateM), v = .slice A n c ∧ SlG w A n gs ∧ n ≤ c ∧ c ≤ maxLen := by
  rcases open_slice_fields (P := Try.prog) (fs := _) Try.underlying22 Try.underlying34 (by kernel_rfl) (by kernel_rfl) h with ⟨e, rfl⟩ | ⟨a, len, cap, m, D, Pl, e, hb, hl, hm, hmm, hx, hf⟩
  · simp at e; subst e
    exact ⟨none, 0, 0, [], rfl, ⟨rfl, by simp⟩, Nat.le_refl _, Nat.zero_le _⟩
  · simp at e; subst e
    simp only [if_true] at hmm
    obtain ⟨gs, hgl, hgs⟩ := list_of (α := GateM) (Q := fun i g => w.cell? (a.add (i * 3)) = some (I g.kind) ∧ w.cell? (a.add (i * 3 + 1)) = some (I g.num) ∧ ∃ A' n c, w.cell? (a.add (i * 3 + 2)) = some (.slice A' n c) ∧ Sl w A' n (g.args.map I) ∧ n ≤ c ∧ c ≤ maxLen) len (by
      intro i hi
      obtain ⟨ys, n, _, _, _, hff⟩ := hf i (by omega)
      obtain ⟨v0, y0, hc0, hy0, ht0⟩ := hff 0 _ rfl
      obtain ⟨v1, y1, hc1, hy1, ht1⟩ := hff 1 _ rfl
      obtain ⟨v2, y2, hc2, hy2, ht2⟩ := hff 2 _ rfl
      obtain ⟨k0, e0, _, wf0⟩ := DataW.trod_int Try.underlying3 ht0
      obtain ⟨k1, e1, _, wf1⟩ := DataW.trod_int Try.underlying3 ht1
      obtain ⟨A', n', c', zs, e2, hs, h1, h2, _⟩ := open_sl ht2
      simp only [List.cons.injEq, and_true] at e0 e1
      subst e0; subst e1; subst e2
      exact ⟨⟨k0, k1, zs⟩, hc0, hc1, A', n', c', hc2, hs, h1, h2⟩)
    refine ⟨some a, len, cap, gs, rfl, ⟨hgl, fun k g hg => ?_⟩, hl, hm⟩
    obtain ⟨h0, h1, A', n', c', h2, h3, h4, h5⟩ := hgs k g hg
    obtain ⟨b, o, rfl⟩ : ∃ b o, a = ⟨b, o, none⟩ := by
      have hk0 : 0 < gs.length := by have := (List.getElem?_eq_some_iff.1 hg).1; omega
      exact spot_of (hgs 0 _ (List.getElem?_eq_getElem hk0)).1 (by omega)
    rw [add_plain'] at h0 h1 h2
    exact ⟨b, o, A', n', c', rfl, h0, by rw [Nat.add_assoc]; exact h1, by rw [Nat.add_assoc]; exact h2, h3, h4, h5⟩
theorem open_stores {v : Value} {x : DataW H × List MemPlace} (h : DataW.trod enc Try.prog w base (fun _ => true) held fuel 23 [v] = some x) :
    ∃ (A : Option Addr) (n c : Nat) (rs : List StoreM), v = .slice A n c ∧ SlR w A n rs ∧ n ≤ c ∧ c ≤ maxLen := by
  rcases open_slice_fields (P := Try.prog) (fs := _) Try.underlying23 Try.underlying78 (by kernel_rfl) (by kernel_rfl) h with ⟨e, rfl⟩ | ⟨a, len, cap, m, D, Pl, e, hb, hl, hm, hmm, hx, hf⟩
  · simp at e; subst e
    exact ⟨none, 0, 0, [], rfl, Sl2.nil _ _ _ _, Nat.le_refl _, Nat.zero_le _⟩
  · simp at e; subst e
    simp only [if_true] at hmm
    obtain ⟨gs, hgl, hgs⟩ := list_of (α := StoreM) (Q := fun i g => w.cell? (a.add (i * 2)) = some (RB g) ∧ w.cell? (a.add (i * 2 + 1)) = some (RN g)) len (by
      intro i hi
      obtain ⟨ys, n, _, _, _, hff⟩ := hf i (by omega)
      obtain ⟨v0, y0, hc0, hy0, ht0⟩ := hff 0 _ rfl
      obtain ⟨v1, y1, hc1, hy1, ht1⟩ := hff 1 _ rfl
      obtain ⟨k0, e0, _⟩ := DataW.trod_bool Try.underlying4 ht0
      obtain ⟨k1, e1, _, wf1⟩ := DataW.trod_int Try.underlying3 ht1
      simp only [List.cons.injEq, and_true] at e0 e1
      subst e0; subst e1
      exact ⟨⟨k0, k1⟩, hc0, hc1⟩)
    refine ⟨some a, len, cap, gs, rfl, ⟨hgl, fun k g hg => ?_⟩, hl, hm⟩
    obtain ⟨h0, h1⟩ := hgs k g hg
    obtain ⟨b, o, rfl⟩ : ∃ b o, a = ⟨b, o, none⟩ := by
      have hk0 : 0 < gs.length := by have := (List.getElem?_eq_some_iff.1 hg).1; omega
      exact spot_of (hgs 0 _ (List.getElem?_eq_getElem hk0)).1 (by omega)
    rw [add_plain'] at h0 h1
    exact ⟨b, o, rfl, h0, by rw [Nat.add_assoc]; exact h1⟩
set_option maxRecDepth 100000 in
theorem open_net {r : Reach} {b0 : Nat} {v : Value} {d : DataW H} {p : List MemPlace} (hv : Value.okWide Try.prog w r b0 26 v) (h : DataW.Trod enc Try.prog w base (fun _ => true) held 26 v d p) :
    ∃ (i : Int) (GA : Option Addr) (gn gc : Nat) (RA : Option Addr) (rn rc : Nat) (OA : Option Addr) (on oc : Nat) (N : NetM), v = netV i GA gn gc RA rn rc OA on oc ∧ NetC w i GA gn gc RA rn rc OA on oc N ∧ -9223372036854775808 ≤ i ∧ i ≤ 9223372036854775807 := by
  obtain ⟨c0, c1, c2, c3, y0, y1, y2, y3, m, rfl, rfl, rfl, h0, h1, h2, h3⟩ := open_agg4 Try.underlying26 (by kernel_rfl) (by kernel_rfl) hv h
  obtain ⟨k0, e0, _, wf0⟩ := DataW.trod_int Try.underlying3 h0
  simp only [List.cons.injEq, and_true] at e0
  subst e0
  obtain ⟨GA, gn, gc, gs, rfl, g1, g2, g3⟩ := open_gates h1
  obtain ⟨RA, rn, rc, rs, rfl, r1, r2, r3⟩ := open_stores h2
  obtain ⟨OA, on, oc, os, rfl, o1, o2, o3, _⟩ := open_sl h3
  have hw : -9223372036854775808 ≤ k0 ∧ k0 ≤ 9223372036854775807 := by simpa [Lit.wf, IntKind.min, IntKind.max, IntKind.signed, IntKind.bits] using wf0
  exact ⟨k0, GA, gn, gc, RA, rn, rc, OA, on, oc, ⟨k0, gs, rs, os⟩, rfl, ⟨rfl, g1, r1, o1, ⟨g2, g3⟩, ⟨r2, r3⟩, ⟨o2, o3⟩⟩, hw⟩
end
end Go.Proofs.Ytjagbnaacfhokaa
/- More words on memory: rows made shorter; an append a little beyond what came in. No program in sight. -/
namespace Go.Proofs.Ytjagbnaacfhokaa
set_option linter.unusedVariables false
set_option linter.unusedSimpArgs false
open Go.RowKit

/-- The front of an own row. -/
theorem own_take {w : World} {base : Nat} {e : TypeId} {g n c : Nat} {xs : List Value} (h : w.ownsRow base e 1 (.slice (some ⟨g, 0, none⟩) n c) n xs) {m : Nat} (hm : m ≤ n) :
    w.ownsRow base e 1 (.slice (some ⟨g, 0, none⟩) m c) m (xs.take m) := by
  obtain ⟨hl, ⟨h0, _⟩ | ⟨g', cap, cur, hv, hb, hg, hnc, hcm, hcs, ht⟩⟩ := h
  · cases h0
  · injection hv with h1 h2 h3
    injection h1 with h1; injection h1 with h1
    subst h1; subst h3
    refine ⟨by simp; omega, .inr ⟨g, c, cur, rfl, hb, hg, by omega, hcm, hcs, ?_⟩⟩
    rw [← ht, List.take_take]; congr 1; omega
theorem own_drop_last {w : World} {base : Nat} {e : TypeId} {g n c : Nat} {ys : List Value} {y : Value} (h : w.ownsRow base e 1 (.slice (some ⟨g, 0, none⟩) (n + 1) c) (n + 1) (ys ++ [y])) :
    w.ownsRow base e 1 (.slice (some ⟨g, 0, none⟩) n c) n ys ∧ w.cell? ⟨g, n, none⟩ = some y := by
  have hl : ys.length = n := by have := h.1; simp at this; omega
  refine ⟨?_, ?_⟩
  · have := own_take h (Nat.le_succ n)
    rwa [List.take_left' hl] at this
  · rw [h.cellAt n (by omega), List.getElem?_append_right (by omega), hl]; simp
theorem growslice_big {need old bytes : Nat} (h : old < need) (hb : need * bytes ≤ 140737489403904) (h8 : bytes ≤ 65536) : Builtin.nextslicecap need old * bytes ≤ 281474976710656 := by
  have h1 : Builtin.nextslicecap need old ≤ need + need / 4 + 1024 ∨ Builtin.nextslicecap need old ≤ 512 := by
    unfold Builtin.nextslicecap
    split
    · omega
    · split
      · omega
      · rw [growBy_four]
        repeat' split
        all_goals omega
  rcases h1 with h1 | h1
  · have h2 : Builtin.nextslicecap need old * bytes ≤ (need + need / 4 + 1024) * bytes := Nat.mul_le_mul_right _ h1
    have h3 : need / 4 * bytes ≤ need * bytes := Nat.mul_le_mul_right _ (Nat.div_le_self _ _)
    have h3' : need / 4 * bytes * 4 ≤ need * bytes := by rw [Nat.mul_right_comm]; exact Nat.mul_le_mul_right _ (Nat.div_mul_le_self _ _)
    have h4 : 1024 * bytes ≤ 67108864 := by omega
    rw [Nat.add_mul, Nat.add_mul] at h2
    omega
  · have h2 : Builtin.nextslicecap need old * bytes ≤ 512 * bytes := Nat.mul_le_mul_right _ h1
    omega
/-- append of all of a slice of one-cell elements onto a row of the call's own; the row may be a little longer than what came in. -/
theorem wpList_appendBig {P : Program} {ops : Array Oper} {rest : List Oper} {o : Oper} {a : Act} {Q : Exit → Act → World → Prop} {w : World} (hgd : o.guard = none) (s x : Operand) (t e : TypeId)
    (ho : o.op = .call { callee := .builtin .append, args := #[s, x], argTypes := #[t, t] })
    {z : Value} {bytes : Nat} (tab : (P.info? e).map (fun i => (i.zero, i.size, i.bytes)) = some (some z, 1, bytes)) (ht : P.underlying t = some (.slice e)) (hzs : z.cells.size = 1) (h8 : bytes ≤ 65536)
    (W0 : World) (hext : Ext W0 w) (v : Value) (n : Nat) (xs : List Value) (hs : a.eval s = v) (hown : w.ownsRow W0.heap.size e 1 v n xs)
    (A : Option Addr) (m c : Nat) (news : List Value) (hx : a.eval x = .slice A m c) (hr : Sl w A m news) (h1 : ∀ u ∈ news, u.oneCell' = true)
    (hbytes : (n + m) * bytes ≤ 140737489403904) (hm4 : n + m ≤ 9007199254740992)
    (h : ∀ v' w', w'.ownsRow W0.heap.size e 1 v' (n + m) (xs ++ news) → Ext W0 w' → w.grownBy w' v.ownBlock → (∀ k, v'.ownBlock = some k → v.ownBlock = some k ∨ w.heap.size ≤ k) → wpList P ops Q rest (a.put o.dst v') w') : wpList P ops Q (o :: rest) a w := by
  have h63 : n + m ≤ maxLen := by unfold maxLen; omega
  obtain ⟨i, hi, hz, hs1, hs2⟩ := info_parts tab
  have hb : ∀ k, v.ownBlock = some k → W0.heap.size ≤ k := fun k hk => (hown.lt k hk).1
  rcases Nat.eq_zero_or_pos m with hm0 | hmp
  · subst hm0
    have hn : news = [] := List.eq_nil_of_length_eq_zero hr.1
    subst hn
    refine wpList_plain hgd fun K hK => ?_
    have hrun : (Builtin.append_ #[t, t] o.type #[v, .slice A 0 c]).run P w = .ok v w := by
      rcases hown.2 with ⟨rfl, rfl⟩ | ⟨g, cap, cur, rfl, _, _, hnc, _⟩
      · simp [Builtin.append_, run_underlying ht, sizeOf, typeInfo, hi, Builtin.lenOf, Builtin.firstCells, loadCells, loadCellsFrom]
        try (cases A <;> simp [Builtin.firstCells, loadCells, loadCellsFrom])
      · simp [Builtin.append_, run_underlying ht, sizeOf, typeInfo, hi, Builtin.lenOf, hnc]
        cases A <;> simp [Builtin.firstCells, loadCells, loadCellsFrom, storeCells]
    unfold Oper.wp execOp
    simp only [ho, resolve, invoke, builtin, Sem.run_bind, Sem.run_pure, Result.andThen_ok, List.map_toArray, List.map_cons, List.map_nil, hs, hx, hrun]
    exact hK _ _ (h v w (by simpa using hown) hext (World.grownBy.refl w _) (fun k hk => .inl hk))
  obtain ⟨b, off, rfl⟩ : ∃ b off, A = some ⟨b, off, none⟩ := by
    have hl : 0 < news.length := by rw [hr.1]; exact hmp
    obtain ⟨b, off, e2, _⟩ := hr.2 0 _ (List.getElem?_eq_getElem hl)
    exact ⟨b, off, e2⟩
  have hcells : ∀ j u, news[j]? = some u → w.cell? ((⟨b, off, none⟩ : Addr).add j) = some u := by
    intro j u hu
    obtain ⟨b', off', e2, hc⟩ := hr.2 j u hu
    injection e2 with e2; injection e2 with e2 e3
    subst e2; subst e3
    rw [add_plain']; exact hc
  have hnl : news.length = m * i.size := by rw [hs1, hr.1]; omega
  have hlen : (xs ++ news).length = (n + m) * 1 := by have := hown.1; have := hr.1; simp; omega
  have grown : ∀ (old : Nat), old < n + m → ∀ (row : Option Nat),
      (w.drew.alloc (.cells (xs.toArray ++ news.toArray ++ Builtin.zeroCells z.cells (grownCap w (n + m) old e - (n + m))) e)).ownsRow W0.heap.size e 1
        (.slice (some ⟨w.heap.size, 0, none⟩) (n + m) (grownCap w (n + m) old e)) (n + m) (xs ++ news) ∧
      w.grownBy (w.drew.alloc (.cells (xs.toArray ++ news.toArray ++ Builtin.zeroCells z.cells (grownCap w (n + m) old e - (n + m))) e)) row := by
    intro old ho' row
    have hge := grownCap_ge w (n + m) old e
    refine ⟨⟨hlen, .inr ⟨w.heap.size, _, _, rfl, hext.size, heap_alloc_new w.drew _, hge, grownCap_le_maxLen w (n + m) old e h63, ?_, ?_⟩⟩, ⟨rfl, rfl, rfl, by simp, fun k hk _ => Below.heap_alloc w.drew _ k hk⟩⟩
    · simp only [Array.size_append, List.size_toArray, size_zeroCells, hzs, hown.1, hr.1, Nat.mul_one]
      omega
    · simp only [Array.toList_append, List.append_assoc]
      rw [← List.append_assoc, ← hlen]
      exact List.take_left
  have hres : ∃ v' w', (Builtin.append_ #[t, t] o.type #[v, .slice (some ⟨b, off, none⟩) m c]).run P w = .ok v' w' ∧ w'.ownsRow W0.heap.size e 1 v' (n + m) (xs ++ news) ∧ w.grownBy w' v.ownBlock ∧ (∀ k, v'.ownBlock = some k → v.ownBlock = some k ∨ w.heap.size ≤ k) := by
    rcases hown.2 with ⟨rfl, rfl⟩ | ⟨g, cap, cur, rfl, hbg, hg, hnc, hcm, hcs, htake⟩
    · have hx0 : xs = [] := List.eq_nil_of_length_eq_zero (by simpa using hown.1)
      subst hx0
      have hr0 := run_append_nil (P := P) w t o.type e i z ht hi hz ⟨b, off, none⟩ m c news hnl hcells hmp (by omega) (by rw [hs2]; simp only [Nat.zero_add] at hbytes; omega)
      have hgr := grown 0 (by omega) (Value.ownBlock (.slice none 0 0))
      simp only [Nat.zero_add, List.nil_append, Array.empty_append] at hgr ⊢
      exact ⟨_, _, hr0, hgr.1, hgr.2, fun k hk => .inr (by simp [Value.ownBlock] at hk; omega)⟩
    · by_cases hroom : n + m ≤ cap
      · have hfit : n * i.size + news.length ≤ cur.size := by rw [hs1, hr.1, hcs]; omega
        have hr0 := run_append_room (P := P) w t o.type e i ht hi g n cap cur hg ⟨b, off, none⟩ m c news hnl hcells h1 hroom hfit
        refine ⟨_, _, hr0, ⟨hlen, .inr ⟨g, cap, _, rfl, hbg, setRow_heap w g cur _ e _ hg, hroom, hcm, ?_, ?_⟩⟩, ⟨rfl, rfl, rfl, by simp, fun k _ hk => setRow_other w g k _ (fun e => hk (by simp [Value.ownBlock, e]))⟩, fun k hk => .inl hk⟩
        · rw [hs1] at *
          simp only [List.size_toArray, List.length_append, List.length_take, List.length_drop, Array.length_toList]
          omega
        · rw [hs1, htake, ← hlen]
          exact List.take_left
      · have holds : ∀ j u, xs[j]? = some u → w.cell? ((⟨g, 0, none⟩ : Addr).add j) = some u := hown.cells (g := g) rfl
        have hr0 := run_append_grow (P := P) w t o.type e i z ht hi hz ⟨g, 0, none⟩ n cap xs (by rw [hs1]; exact hown.1) holds ⟨b, off, none⟩ m c news hnl hcells (by omega) (by omega) (by rw [hs2]; exact growslice_big (by omega) hbytes h8)
        have hgr := grown cap (by omega) (Value.ownBlock (.slice (some ⟨g, 0, none⟩) n cap))
        exact ⟨_, _, hr0, hgr.1, hgr.2, fun k hk => .inr (by simp [Value.ownBlock] at hk; omega)⟩
  obtain ⟨v', w', hrun, k1, k2, k3⟩ := hres
  refine wpList_plain hgd fun K hK => ?_
  unfold Oper.wp execOp
  simp only [ho, resolve, invoke, builtin, Sem.run_bind, Sem.run_pure, Result.andThen_ok, List.map_toArray, List.map_cons, List.map_nil, hs, hx, hrun]
  exact hK _ _ (h v' w' k1 (Below.grown hext k2 hext.size hb) k2 k3)
/-- One place of an own row is written; another own row stays. -/
theorem own_other {w : World} {base : Nat} {e : TypeId} {size n : Nat} {v : Value} {xs : List Value} (h : w.ownsRow base e size v n xs) {g j : Nat} {u : Value} (hg : v.ownBlock ≠ some g) : (w.setCell ⟨g, j, none⟩ u).ownsRow base e size v n xs := by
  refine h.kept (row := some g) ⟨rfl, rfl, rfl, by simp, fun k _ hk => heap_setCell_other w ⟨g, j, none⟩ k u (fun e => hk (by simp [e]))⟩ (.inr hg)
end Go.Proofs.Ytjagbnaacfhokaa
/- A row of one-cell elements of the call's own that may begin within its block: a queue. No program in sight. -/
namespace Go.Proofs.Ytjagbnaacfhokaa
set_option linter.unusedVariables false
set_option linter.unusedSimpArgs false
open Go.RowKit

theorem frozen_keep {w w' w2 : World} {p : Addr} {u : Value} {row : Option Nat} (hg : w'.grownBy w2 row) (hx : Ext w w') (hc : w.cell? p = some u) (hne : some p.block ≠ row) : w2.frozen? p = w.frozen? p :=
  (World.frozen?_of_block (hg.block p.block (Nat.lt_of_lt_of_le (lt_of_cell hc) hx.size) hne)).trans (World.frozen?_of_block (hx.block p.block (lt_of_cell hc)))
/-- All that was there is as it was, but for two blocks; new memory may have come. -/
structure Aside (g1 g2 : Nat) (w w' : World) : Prop where
  os : w'.os = w.os
  tape : w'.tape = w.tape
  output : w'.output = w.output
  size : w.heap.size ≤ w'.heap.size
  block : ∀ k, k < w.heap.size → k ≠ g1 → k ≠ g2 → w'.heap[k]? = w.heap[k]?
section
variable {g1 g2 : Nat} {a b c : World}
theorem Aside.refl (g1 g2 : Nat) (w : World) : Aside g1 g2 w w := ⟨rfl, rfl, rfl, Nat.le_refl _, fun _ _ _ _ => rfl⟩
theorem Aside.more (h : Aside g1 g2 a b) (k : Ext b c) : Aside g1 g2 a c :=
  ⟨k.os.trans h.os, k.tape.trans h.tape, k.output.trans h.output, Nat.le_trans h.size k.size, fun i hi h1 h2 => (k.block i (Nat.lt_of_lt_of_le hi h.size)).trans (h.block i hi h1 h2)⟩
theorem Aside.set1 (h : Aside g1 g2 a b) (j : Nat) (v : Value) : Aside g1 g2 a (b.setCell ⟨g1, j, none⟩ v) :=
  ⟨h.os, h.tape, h.output, by simpa using h.size, fun i hi h1 h2 => by rw [heap_setCell_other b ⟨g1, j, none⟩ i v h1]; exact h.block i hi h1 h2⟩
theorem Aside.grown {row : Option Nat} (h : Aside g1 g2 a b) (hg : b.grownBy c row) (hr : ∀ k, row = some k → k = g2 ∨ a.heap.size ≤ k) : Aside g1 g2 a c :=
  ⟨hg.os.trans h.os, hg.tape.trans h.tape, hg.output.trans h.output, Nat.le_trans h.size hg.size, fun i hi h1 h2 => (hg.block i (Nat.lt_of_lt_of_le hi h.size) (fun e => by rcases hr i e.symm with q | q <;> omega)).trans (h.block i hi h1 h2)⟩
theorem Aside.cell (h : Aside g1 g2 a b) {p : Addr} {u : Value} (hc : a.cell? p = some u) (h1 : p.block ≠ g1) (h2 : p.block ≠ g2) : b.cell? p = some u :=
  (World.cell?_of_block (h.block p.block (lt_of_cell hc) h1 h2)).trans hc
theorem Aside.ext {w0 : World} (h : Aside g1 g2 a b) (e : Ext w0 a) (h1 : w0.heap.size ≤ g1) (h2 : w0.heap.size ≤ g2) : Ext w0 b :=
  ⟨h.os.trans e.os, h.tape.trans e.tape, h.output.trans e.output, Nat.le_trans e.size h.size, fun i hi => (h.block i (Nat.lt_of_lt_of_le hi e.size) (by omega) (by omega)).trans (e.block i hi)⟩
end
theorem Sl.aside {g1 g2 : Nat} {a b : World} {A : Option Addr} {n : Nat} {cs : List Value} (h : Sl a A n cs) (k : Aside g1 g2 a b) (hA : ∀ p, A = some p → p.block ≠ g1 ∧ p.block ≠ g2) : Sl b A n cs :=
  ⟨h.1, fun j u hu => let ⟨q, o, e, hc⟩ := h.2 j u hu; ⟨q, o, e, k.cell hc (hA _ e).1 (hA _ e).2⟩⟩
theorem set_same {α : Type} {l : List α} {j : Nat} {x : α} (h : l[j]? = some x) : l.set j x = l := by
  refine List.ext_getElem? fun i => ?_
  rw [List.getElem?_set]
  by_cases e : j = i
  · subst e; rw [if_pos rfl, if_pos (List.getElem?_eq_some_iff.1 h).1, h]
  · rw [if_neg e]
theorem grownBy_set (w : World) (g j : Nat) (v : Value) : w.grownBy (w.setCell ⟨g, j, none⟩ v) (some g) :=
  ⟨rfl, rfl, rfl, by simp, fun i _ hi => heap_setCell_other w ⟨g, j, none⟩ i v (fun e => hi (by simp [e]))⟩
theorem pick_block {s : Value} {gv lo hi B : Nat} (h1 : s.ownBlock ≠ some gv) (h2 : ∀ b, s.ownBlock = some b → B ≤ b ∧ b < lo) (hgv : gv < hi) (hB : B ≤ hi) :
    ∃ b0, (∀ b, s.ownBlock = some b → b = b0) ∧ b0 ≠ gv ∧ B ≤ b0 ∧ ∀ j, lo ≤ j → j < hi → j ≠ b0 := by
  cases hb : s.ownBlock with
  | none => exact ⟨hi, fun b e => by simp at e, by omega, hB, fun j _ h => by omega⟩
  | some b =>
    have := h2 b hb
    exact ⟨b, fun b' e => (Option.some.inj e).symm, fun e => h1 (by rw [hb, e]), this.1, fun j h _ => by omega⟩
def OwnQ (w : World) (base : Nat) (e : TypeId) (v : Value) (xs : List Value) : Prop :=
  (v = .slice none 0 0 ∧ xs = []) ∨ ∃ g off cap cur, v = .slice (some ⟨g, off, none⟩) xs.length cap ∧ base ≤ g ∧ w.heap[g]? = some (.cells cur e (0, 0)) ∧ xs.length ≤ cap ∧ cap ≤ maxLen ∧ off + cap ≤ cur.size ∧ (cur.toList.drop off).take xs.length = xs
section
variable {w w' : World} {base : Nat} {e : TypeId} {v : Value} {n : Nat} {xs : List Value}
theorem OwnQ.of_own (h : w.ownsRow base e 1 v n xs) : OwnQ w base e v xs := by
  rcases h with ⟨hl, ⟨rfl, rfl⟩ | ⟨g, cap, cur, rfl, hb, hg, hnc, hm, hcs, ht⟩⟩
  · exact .inl ⟨rfl, List.eq_nil_of_length_eq_zero (by simpa using hl)⟩
  · have hn : xs.length = n := by omega
    refine .inr ⟨g, 0, cap, cur, by rw [hn], hb, hg, by omega, hm, by omega, ?_⟩
    rw [List.drop_zero, hn]; simpa using ht
theorem OwnQ.lt (h : OwnQ w base e v xs) : ∀ k, v.ownBlock = some k → base ≤ k ∧ k < w.heap.size := by
  intro k hk
  rcases h with ⟨rfl, _⟩ | ⟨g, off, cap, cur, rfl, hb, hg, _⟩
  · simp [Value.ownBlock] at hk
  · simp [Value.ownBlock] at hk
    subst hk
    exact ⟨hb, (Array.getElem?_eq_some_iff.1 hg).1⟩
theorem OwnQ.kept {row : Option Nat} (h : OwnQ w base e v xs) (hg : w.grownBy w' row) (hne : v.ownBlock = none ∨ v.ownBlock ≠ row) : OwnQ w' base e v xs := by
  rcases h with h | ⟨g, off, cap, cur, rfl, hb, hgg, rest⟩
  · exact .inl h
  · refine .inr ⟨g, off, cap, cur, rfl, hb, ?_, rest⟩
    rw [hg.block g (Array.getElem?_eq_some_iff.1 hgg).1 (by simpa [Value.ownBlock] using hne)]
    exact hgg
theorem OwnQ.ext (h : OwnQ w base e v xs) (hx : Ext w w') : OwnQ w' base e v xs := by
  rcases h with h | ⟨g, off, cap, cur, rfl, hb, hgg, rest⟩
  · exact .inl h
  · exact .inr ⟨g, off, cap, cur, rfl, hb, (hx.block g (Array.getElem?_eq_some_iff.1 hgg).1).trans hgg, rest⟩
theorem OwnQ.cell {g off cap : Nat} (h : OwnQ w base e (.slice (some ⟨g, off, none⟩) n cap) xs) : ∀ j u, xs[j]? = some u → w.cell? ⟨g, off + j, none⟩ = some u := by
  intro j u hu
  rcases h with ⟨h0, _⟩ | ⟨g', off', cap', cur, hv, _, hgg, _, _, _, ht⟩
  · cases h0
  · injection hv with h1 _ _
    injection h1 with h1; injection h1 with h1 h2
    subst h1; subst h2
    rw [cell_of_row w g (off + j) cur e (0, 0) hgg]
    rw [← ht, List.getElem?_take] at hu
    split at hu
    · rw [List.getElem?_drop] at hu; simpa using hu
    · cases hu
theorem OwnQ.slice (h : OwnQ w base e v xs) : ∃ A c, v = .slice A xs.length c ∧ xs.length ≤ c ∧ c ≤ maxLen ∧ Sl w A xs.length xs := by
  have h' := h
  rcases h with ⟨rfl, rfl⟩ | ⟨g, off, cap, cur, rfl, _, hgg, hnc, hm, _, _⟩
  · exact ⟨none, 0, rfl, Nat.le_refl _, Nat.zero_le _, Sl.nil _ _⟩
  · exact ⟨_, _, rfl, hnc, hm, rfl, fun k u hu => ⟨g, off, rfl, h'.cell k u hu⟩⟩
/-- The first is taken off. -/
theorem OwnQ.tail {x : Value} (h : OwnQ w base e v (x :: xs)) : ∃ g off c, v = .slice (some ⟨g, off, none⟩) (xs.length + 1) c ∧ xs.length + 1 ≤ c ∧ c ≤ maxLen ∧ w.cell? ⟨g, off, none⟩ = some x ∧
    OwnQ w base e (.slice (some (if c = 1 then ⟨g, off, none⟩ else ⟨g, off + 1, none⟩)) xs.length (c - 1)) xs := by
  have h' := h
  rcases h with ⟨_, h0⟩ | ⟨g, off, cap, cur, rfl, hb, hgg, hnc, hm, hcs, ht⟩
  · cases h0
  · simp only [List.length_cons] at hnc ht ⊢
    refine ⟨g, off, cap, rfl, hnc, hm, by simpa using h'.cell 0 x (by simp), ?_⟩
    by_cases h1 : cap = 1
    · rw [if_pos h1]
      have : xs = [] := List.eq_nil_of_length_eq_zero (by omega)
      subst this
      exact .inr ⟨g, off, cap - 1, cur, rfl, hb, hgg, by simp, by omega, by omega, by simp⟩
    · rw [if_neg h1]
      refine .inr ⟨g, off + 1, cap - 1, cur, rfl, hb, hgg, by omega, by omega, by omega, ?_⟩
      have e1 : cur.toList.drop (off + 1) = (cur.toList.drop off).tail := by rw [List.tail_drop]
      have e2 : ∀ (l : List Value) (n : Nat), l.tail.take n = (l.take (n + 1)).tail := fun l n => by cases l <;> simp
      rw [e1, e2, ht]; rfl
end

/-- append onto such a row. -/
theorem OwnQ.append {P : Program} {w : World} (t ty e : TypeId) {z : Value} {bytes : Nat} (tab : (P.info? e).map (fun i => (i.zero, i.size, i.bytes)) = some (some z, 1, bytes)) (ht : P.underlying t = some (.slice e)) (hzs : z.cells.size = 1) (h8 : bytes ≤ 65536)
    {base : Nat} (hbase : base ≤ w.heap.size) {v : Value} {xs : List Value} (hown : OwnQ w base e v xs) (A : Option Addr) (m c : Nat) (news : List Value) (hr : Sl w A m news) (h1 : ∀ u ∈ news, u.oneCell' = true)
    (hbytes : (xs.length + m) * bytes ≤ 140737489403904) (hm4 : xs.length + m ≤ 9007199254740992) :
    ∃ v' w', (Builtin.append_ #[t, t] ty #[v, .slice A m c]).run P w = .ok v' w' ∧ OwnQ w' base e v' (xs ++ news) ∧ w.grownBy w' v.ownBlock ∧ ∀ k, v'.ownBlock = some k → v.ownBlock = some k ∨ w.heap.size ≤ k := by
  have h63 : xs.length + m ≤ maxLen := by unfold maxLen; omega
  obtain ⟨i, hi, hz, hs1, hs2⟩ := info_parts tab
  rcases Nat.eq_zero_or_pos m with hm0 | hmp
  · subst hm0
    have hn : news = [] := List.eq_nil_of_length_eq_zero hr.1
    subst hn
    refine ⟨v, w, ?_, by simpa using hown, World.grownBy.refl w _, fun k hk => .inl hk⟩
    rcases hown with ⟨rfl, rfl⟩ | ⟨g, off, cap, cur, rfl, _, _, hnc, _⟩
    · simp [Builtin.append_, run_underlying ht, sizeOf, typeInfo, hi, Builtin.lenOf, Builtin.firstCells, loadCells, loadCellsFrom]
      try (cases A <;> simp [Builtin.firstCells, loadCells, loadCellsFrom])
    · simp [Builtin.append_, run_underlying ht, sizeOf, typeInfo, hi, Builtin.lenOf, hnc]
      cases A <;> simp [Builtin.firstCells, loadCells, loadCellsFrom, storeCells]
  obtain ⟨b, off0, rfl⟩ : ∃ b off, A = some ⟨b, off, none⟩ := by
    have hl : 0 < news.length := by rw [hr.1]; exact hmp
    obtain ⟨b, off, e2, _⟩ := hr.2 0 _ (List.getElem?_eq_getElem hl)
    exact ⟨b, off, e2⟩
  have hcells : ∀ j u, news[j]? = some u → w.cell? ((⟨b, off0, none⟩ : Addr).add j) = some u := by
    intro j u hu
    obtain ⟨b', off', e2, hc⟩ := hr.2 j u hu
    injection e2 with e2; injection e2 with e2 e3
    subst e2; subst e3
    rw [add_plain']; exact hc
  have hnl : news.length = m * i.size := by rw [hs1, hr.1]; omega
  have hlen : (xs ++ news).length = xs.length + m := by rw [List.length_append, hr.1]
  have grown : ∀ (old : Nat) (row : Option Nat),
      OwnQ (w.drew.alloc (.cells (xs.toArray ++ news.toArray ++ Builtin.zeroCells z.cells (grownCap w (xs.length + m) old e - (xs.length + m))) e)) base e
        (.slice (some ⟨w.heap.size, 0, none⟩) (xs.length + m) (grownCap w (xs.length + m) old e)) (xs ++ news) ∧
      w.grownBy (w.drew.alloc (.cells (xs.toArray ++ news.toArray ++ Builtin.zeroCells z.cells (grownCap w (xs.length + m) old e - (xs.length + m))) e)) row := by
    intro old row
    have hge := grownCap_ge w (xs.length + m) old e
    refine ⟨.inr ⟨w.heap.size, 0, _, _, by rw [hlen], hbase, heap_alloc_new w.drew _, by rw [hlen]; exact hge, grownCap_le_maxLen w _ old e h63, ?_, ?_⟩, ⟨rfl, rfl, rfl, by simp, fun k hk _ => Below.heap_alloc w.drew _ k hk⟩⟩
    · simp only [Array.size_append, List.size_toArray, size_zeroCells, hzs, hr.1, Nat.mul_one]
      omega
    · simp only [Array.toList_append, List.append_assoc, List.drop_zero]
      rw [← List.append_assoc]
      exact List.take_left
  rcases hown with ⟨rfl, rfl⟩ | ⟨g, off, cap, cur, rfl, hbg, hg, hnc, hcm, hcs, htake⟩
  · have hr0 := run_append_nil (P := P) w t ty e i z ht hi hz ⟨b, off0, none⟩ m c news hnl hcells hmp (by omega) (by rw [hs2]; simp only [List.length_nil, Nat.zero_add] at hbytes; omega)
    have hgr := grown 0 (Value.ownBlock (.slice none 0 0))
    simp only [List.length_nil, Nat.zero_add, List.nil_append, Array.empty_append] at hgr ⊢
    exact ⟨_, _, hr0, hgr.1, hgr.2, fun k hk => .inr (by simp [Value.ownBlock] at hk; omega)⟩
  · by_cases hroom : xs.length + m ≤ cap
    · have hf := run_firstCells_some (P := P) w i.size m ⟨b, off0, none⟩ m c news hnl hcells
      have hst := run_storeCells_at P g (off + xs.length) e news 0 cur w hg (by rw [hr.1]; omega) h1
      simp only [Nat.add_zero] at hst
      have hrun : (Builtin.append_ #[t, t] ty #[.slice (some ⟨g, off, none⟩) xs.length cap, .slice (some ⟨b, off0, none⟩) m c]).run P w =
          .ok (.slice (some ⟨g, off, none⟩) (xs.length + m) cap) (w.setRow g (cur.toList.take (off + xs.length) ++ news ++ cur.toList.drop (off + xs.length + news.length)).toArray) := by
        rw [hs1] at hf
        simp [Builtin.append_, run_underlying ht, sizeOf, typeInfo, hi, hs1, Builtin.lenOf, hroom, hf, add_plain', hst]
      refine ⟨_, _, hrun, .inr ⟨g, off, cap, _, by rw [hlen], hbg, setRow_heap w g cur _ e _ hg, by rw [hlen]; exact hroom, hcm, ?_, ?_⟩, ⟨rfl, rfl, rfl, by simp, fun k _ hk => setRow_other w g k _ (fun e => hk (by simp [Value.ownBlock, e]))⟩, fun k hk => .inl hk⟩
      · have := hr.1
        simp only [List.size_toArray, List.length_append, List.length_take, List.length_drop, Array.length_toList]
        omega
      · have h2 : off ≤ (cur.toList.take (off + xs.length)).length := by simp; omega
        have h3 : (cur.toList.take (off + xs.length)).drop off = xs := by rw [List.drop_take, Nat.add_sub_cancel_left]; exact htake
        simp only [List.append_assoc]
        rw [List.drop_append_of_le_length h2, h3, ← List.append_assoc]
        exact List.take_left
    · have holds : ∀ j u, xs[j]? = some u → w.cell? ((⟨g, off, none⟩ : Addr).add j) = some u := fun j u hu => by
        rw [add_plain']
        exact OwnQ.cell (.inr ⟨g, off, cap, cur, rfl, hbg, hg, hnc, hcm, hcs, htake⟩ : OwnQ w base e (.slice (some ⟨g, off, none⟩) xs.length cap) xs) j u hu
      have hr0 := run_append_grow (P := P) w t ty e i z ht hi hz ⟨g, off, none⟩ xs.length cap xs (by rw [hs1]; omega) holds ⟨b, off0, none⟩ m c news hnl hcells (by omega) (by omega) (by rw [hs2]; exact growslice_big (by omega) hbytes h8)
      have hgr := grown cap (Value.ownBlock (.slice (some ⟨g, off, none⟩) xs.length cap))
      exact ⟨_, _, hr0, hgr.1, hgr.2, fun k hk => .inr (by simp [Value.ownBlock] at hk; omega)⟩
/-- The same in a walk. -/
theorem wpList_appendQ {P : Program} {ops : Array Oper} {rest : List Oper} {o : Oper} {a : Act} {Q : Exit → Act → World → Prop} {w : World} (hgd : o.guard = none) (s x : Operand) (t e : TypeId)
    (ho : o.op = .call { callee := .builtin .append, args := #[s, x], argTypes := #[t, t] })
    {z : Value} {bytes : Nat} (tab : (P.info? e).map (fun i => (i.zero, i.size, i.bytes)) = some (some z, 1, bytes)) (ht : P.underlying t = some (.slice e)) (hzs : z.cells.size = 1) (h8 : bytes ≤ 65536)
    (base : Nat) (hbase : base ≤ w.heap.size) (v : Value) (xs : List Value) (hs : a.eval s = v) (hown : OwnQ w base e v xs)
    (A : Option Addr) (m c : Nat) (news : List Value) (hx : a.eval x = .slice A m c) (hr : Sl w A m news) (h1 : ∀ u ∈ news, u.oneCell' = true)
    (hbytes : (xs.length + m) * bytes ≤ 140737489403904) (hm4 : xs.length + m ≤ 9007199254740992)
    (h : ∀ v' w', OwnQ w' base e v' (xs ++ news) → w.grownBy w' v.ownBlock → (∀ k, v'.ownBlock = some k → v.ownBlock = some k ∨ w.heap.size ≤ k) → wpList P ops Q rest (a.put o.dst v') w') : wpList P ops Q (o :: rest) a w := by
  obtain ⟨v', w', hrun, k1, k2, k3⟩ := OwnQ.append t o.type e tab ht hzs h8 hbase hown A m c news hr h1 hbytes hm4
  refine wpList_plain hgd fun K hK => ?_
  unfold Oper.wp execOp
  simp only [ho, resolve, invoke, builtin, Sem.run_bind, Sem.run_pure, Result.andThen_ok, List.map_toArray, List.map_cons, List.map_nil, hs, hx, hrun]
  exact hK _ _ (h v' w' k1 k2 k3)
end Go.Proofs.Ytjagbnaacfhokaa
/- Who is needed, in plain Lean: the work list and the rounds tell the same. No program in sight. -/
namespace Go.Proofs.Ytjagbnaacfhokaa
set_option linter.unusedVariables false
set_option linter.unusedSimpArgs false

def argsI (gs : List GateM) (k : Int) : List Int := (gs[k.toNat]?.map (·.args)).getD []
def onI (o : List Bool) (k : Int) : Bool := o[k.toNat]?.getD false
def markM (o : List Bool) (l : List Int) : List Bool := l.foldl (fun o a => o.set a.toNat true) o
def roundFrom : List GateM → Nat → List Bool → List Bool
  | [], _, o => o
  | g :: l, k, o => roundFrom l (k + 1) (if onI o k then markM o g.args else o)
def roundM (gs : List GateM) (o : List Bool) : List Bool := roundFrom gs 0 o
def roundsM (gs : List GateM) : Nat → List Bool → List Bool
  | 0, o => o
  | n + 1, o => roundsM gs n (roundM gs o)
def needsM (gs : List GateM) (l : List Int) : List Bool := roundsM gs gs.length (markM (List.replicate gs.length false) l)
def inR (n : Nat) (l : List Int) : Prop := ∀ k ∈ l, 0 ≤ k ∧ k < n
def okArgs (gs : List GateM) : Prop := ∀ g ∈ gs, inR gs.length g.args

inductive NReach (gs : List GateM) (l : List Int) : Int → Prop
  | base {k : Int} : k ∈ l → NReach gs l k
  | step {k a : Int} : NReach gs l k → a ∈ argsI gs k → NReach gs l a

theorem argsI_mem {gs : List GateM} {k a : Int} (h : a ∈ argsI gs k) : ∃ g, gs[k.toNat]? = some g ∧ a ∈ g.args := by
  unfold argsI at h
  cases e : gs[k.toNat]? with
  | none => simp [e] at h
  | some g => exact ⟨g, rfl, by simpa [e] using h⟩
theorem argsI_range {gs : List GateM} (h : okArgs gs) {k a : Int} (ha : a ∈ argsI gs k) : 0 ≤ a ∧ a < gs.length := by
  obtain ⟨g, hg, hm⟩ := argsI_mem ha
  exact h g (List.mem_of_getElem? hg) a hm
theorem reach_range {gs : List GateM} (h : okArgs gs) {l : List Int} (hl : inR gs.length l) {k : Int} (r : NReach gs l k) : 0 ≤ k ∧ k < gs.length := by
  cases r with
  | base hk => exact hl _ hk
  | step _ ha => exact argsI_range h ha

/-! lists of flags -/
theorem onI_set (o : List Bool) (a k : Int) (h0 : 0 ≤ a) (h1 : a < o.length) (k0 : 0 ≤ k) : onI (o.set a.toNat true) k = (onI o k || decide (k = a)) := by
  unfold onI
  rw [List.getElem?_set]
  by_cases e : k = a
  · subst e; rw [if_pos rfl, if_pos (by omega)]; simp
  · have : ¬ a.toNat = k.toNat := by omega
    simp [this, e]
theorem markM_length (l : List Int) : ∀ o : List Bool, (markM o l).length = o.length := by
  induction l with
  | nil => intro o; rfl
  | cons a l ih => intro o; simp only [markM, List.foldl_cons] at *; rw [ih]; simp
theorem onI_mark (l : List Int) (k : Int) (k0 : 0 ≤ k) : ∀ o : List Bool, inR o.length l → (onI (markM o l) k = true ↔ onI o k = true ∨ k ∈ l) := by
  induction l with
  | nil => intro o _; simp [markM]
  | cons a l ih =>
    intro o h
    have ha := h a (by simp)
    have h2 := ih (o.set a.toNat true) (fun x hx => by simpa using h x (by simp [hx]))
    simp only [markM, List.foldl_cons] at h2 ⊢
    rw [h2, onI_set o a k ha.1 ha.2 k0]
    simp only [Bool.or_eq_true, decide_eq_true_eq, List.mem_cons]
    constructor
    · rintro ((h | h) | h)
      · exact .inl h
      · exact .inr (.inl h)
      · exact .inr (.inr h)
    · rintro (h | h | h)
      · exact .inl (.inl h)
      · exact .inl (.inr h)
      · exact .inr h
theorem flags_ext {a b : List Bool} (hl : a.length = b.length) (h : ∀ k : Nat, k < a.length → onI a k = onI b k) : a = b := by
  apply List.ext_getElem hl
  intro i h1 h2
  have := h i h1
  simpa [onI, List.getElem?_eq_getElem h1, List.getElem?_eq_getElem h2] using this
theorem onI_lt {o : List Bool} {k : Int} (h : onI o k = true) : k.toNat < o.length := by
  unfold onI at h
  rcases Nat.lt_or_ge k.toNat o.length with e | e
  · exact e
  · rw [List.getElem?_eq_none e] at h; cases h

/-- What is needed: closed, and nothing else than is reached. -/
structure Least (gs : List GateM) (l : List Int) (o : List Bool) : Prop where
  len : o.length = gs.length
  sound : ∀ k : Int, 0 ≤ k → onI o k = true → NReach gs l k
  all : ∀ k ∈ l, onI o k = true
  closed : ∀ k : Int, 0 ≤ k → onI o k = true → ∀ a ∈ argsI gs k, onI o a = true
theorem Least.iff {gs : List GateM} {l : List Int} {o : List Bool} (h : Least gs l o) (ok : okArgs gs) (hl : inR gs.length l) {k : Int} (h0 : 0 ≤ k) : onI o k = true ↔ NReach gs l k := by
  refine ⟨h.sound k h0, fun r => ?_⟩
  induction r with
  | base hk => exact h.all _ hk
  | step r ha ih => exact h.closed _ (reach_range ok hl r).1 (ih (reach_range ok hl r).1) _ ha
theorem Least.uniq {gs : List GateM} {l : List Int} {a b : List Bool} (h : Least gs l a) (k : Least gs l b) (ok : okArgs gs) (hl : inR gs.length l) : a = b := by
  refine flags_ext (by rw [h.len, k.len]) fun i _ => ?_
  rw [Bool.eq_iff_iff, h.iff ok hl (by omega), k.iff ok hl (by omega)]

/-! the rounds -/
def subB : List Bool → List Bool → Bool
  | [], [] => true
  | x :: a, y :: b => (!x || y) && subB a b
  | _, _ => false
theorem subB_refl (a : List Bool) : subB a a = true := by
  induction a with
  | nil => rfl
  | cons x a ih => cases x <;> simp [subB, ih]
theorem subB_trans : ∀ {a b c : List Bool}, subB a b = true → subB b c = true → subB a c = true
  | [], [], [], _, _ => rfl
  | [], [], z :: c, _, h => by simp [subB] at h
  | [], y :: b, _, h, _ => by simp [subB] at h
  | x :: a, [], _, h, _ => by simp [subB] at h
  | x :: a, y :: b, [], _, h => by simp [subB] at h
  | x :: a, y :: b, z :: c, h, k => by
    simp only [subB, Bool.and_eq_true] at *
    exact ⟨by cases x <;> cases y <;> cases z <;> simp_all, subB_trans h.2 k.2⟩
theorem subB_anti : ∀ {a b : List Bool}, subB a b = true → subB b a = true → a = b
  | [], [], _, _ => rfl
  | [], y :: b, h, _ => by simp [subB] at h
  | x :: a, [], h, _ => by simp [subB] at h
  | x :: a, y :: b, h, k => by
    simp only [subB, Bool.and_eq_true] at *
    rw [subB_anti h.2 k.2]; cases x <;> cases y <;> simp_all
theorem subB_set : ∀ (o : List Bool) (k : Nat), subB o (o.set k true) = true
  | [], _ => rfl
  | x :: o, 0 => by simp [subB, subB_refl]
  | x :: o, k + 1 => by simp [subB, subB_set o k]
theorem subB_mark (l : List Int) : ∀ o : List Bool, subB o (markM o l) = true := by
  induction l with
  | nil => intro o; exact subB_refl o
  | cons a l ih => intro o; exact subB_trans (subB_set o _) (ih _)
theorem subB_len : ∀ {a b : List Bool}, subB a b = true → a.length = b.length
  | [], [], _ => rfl
  | [], y :: b, h => by simp [subB] at h
  | x :: a, [], h => by simp [subB] at h
  | x :: a, y :: b, h => by simp only [subB, Bool.and_eq_true] at h; simp [subB_len h.2]
theorem subB_at : ∀ {a b : List Bool} (k : Nat), subB a b = true → a[k]?.getD false = true → b[k]?.getD false = true
  | [], _, k, _, h => by simp at h
  | x :: a, [], _, h, _ => by simp [subB] at h
  | x :: a, y :: b, 0, h, k => by simp only [subB, Bool.and_eq_true] at h; simp_all
  | x :: a, y :: b, n + 1, h, k => by simp only [subB, Bool.and_eq_true] at h; simpa using subB_at n h.2 (by simpa using k)
def cnt (o : List Bool) : Nat := o.countP id
theorem cnt_le : ∀ {a b : List Bool}, subB a b = true → cnt a ≤ cnt b ∧ (cnt a = cnt b → a = b)
  | [], [], _ => ⟨Nat.le_refl _, fun _ => rfl⟩
  | [], y :: b, h => by simp [subB] at h
  | x :: a, [], h => by simp [subB] at h
  | x :: a, y :: b, h => by
    simp only [subB, Bool.and_eq_true] at h
    obtain ⟨h1, h2⟩ := cnt_le h.2
    unfold cnt at *
    cases x <;> cases y <;> simp_all <;> omega
theorem cnt_max (o : List Bool) : cnt o ≤ o.length := List.countP_le_length
theorem roundFrom_sub (l : List GateM) : ∀ (k : Nat) (o : List Bool), subB o (roundFrom l k o) = true := by
  induction l with
  | nil => intro k o; exact subB_refl o
  | cons g l ih =>
    intro k o
    simp only [roundFrom]
    split
    · exact subB_trans (subB_mark _ _) (ih _ _)
    · exact ih _ _
theorem roundFrom_sound {gs : List GateM} {q : List Int} (ok : okArgs gs) (hq : inR gs.length q) (l : List GateM) : ∀ (k : Nat) (o : List Bool), gs.drop k = l → o.length = gs.length → (∀ i : Int, 0 ≤ i → onI o i = true → NReach gs q i) →
    ∀ i : Int, 0 ≤ i → onI (roundFrom l k o) i = true → NReach gs q i := by
  induction l with
  | nil => intro k o _ _ h; exact h
  | cons g l ih =>
    intro k o hd ho h i hi hon
    simp only [roundFrom] at hon
    have hk : gs[k]? = some g := by
      have : (gs.drop k)[0]? = some g := by rw [hd]; rfl
      simpa using this
    have hd' : gs.drop (k + 1) = l := by rw [← List.drop_drop, hd]; rfl
    split at hon
    · rename_i hk2
      refine ih (k + 1) _ hd' (by rw [markM_length, ho]) (fun j hj hj2 => ?_) i hi hon
      have hr : inR o.length g.args := by rw [ho]; exact ok g (List.mem_of_getElem? hk)
      rcases (onI_mark g.args j hj o hr).1 hj2 with e | e
      · exact h j hj e
      · exact .step (h k (by omega) hk2) (by simp [argsI, hk, e])
    · exact ih (k + 1) o hd' ho h i hi hon
theorem roundFrom_fix {gs : List GateM} (ok : okArgs gs) (l : List GateM) : ∀ (k : Nat) (o : List Bool), gs.drop k = l → o.length = gs.length → subB (roundFrom l k o) o = true →
    ∀ (j : Nat) (g : GateM), l[j]? = some g → onI o ((k + j : Nat) : Int) = true → ∀ a ∈ g.args, onI o a = true := by
  induction l with
  | nil => intro k o _ _ _ j g h; simp at h
  | cons g l ih =>
    intro k o hd ho h j x hj hon a ha
    have hk : gs[k]? = some g := by
      have : (gs.drop k)[0]? = some g := by rw [hd]; rfl
      simpa using this
    have hd' : gs.drop (k + 1) = l := by rw [← List.drop_drop, hd]; rfl
    simp only [roundFrom] at h
    generalize hb : onI o k = b at h
    cases b
    · simp only [Bool.false_eq_true, if_false] at h
      cases j with
      | zero => simp at hon; rw [hon] at hb; cases hb
      | succ j => exact ih (k + 1) o hd' ho h j x (by simpa using hj) (by rw [show k + 1 + j = k + (j + 1) from by omega]; exact hon) a ha
    · simp only [if_true] at h
      have hm : markM o g.args = o := subB_anti (subB_trans (roundFrom_sub l (k + 1) _) h) (subB_mark _ _)
      rw [hm] at h
      cases j with
      | zero =>
        simp at hj; subst hj
        have hr : inR o.length g.args := by rw [ho]; exact ok g (List.mem_of_getElem? hk)
        have := (onI_mark g.args a (hr a ha).1 o hr).2 (.inr ha)
        rwa [hm] at this
      | succ j => exact ih (k + 1) o hd' ho h j x (by simpa using hj) (by rw [show k + 1 + j = k + (j + 1) from by omega]; exact hon) a ha
theorem roundM_len (gs : List GateM) (o : List Bool) : (roundM gs o).length = o.length := (subB_len (roundFrom_sub gs 0 o)).symm
theorem roundsM_fixed (gs : List GateM) (n : Nat) : ∀ o, roundM gs o = o → roundsM gs n o = o := by
  induction n with
  | zero => intro o _; rfl
  | succ n ih => intro o h; simp only [roundsM, h]; exact ih o h
theorem roundsM_fix (gs : List GateM) (n : Nat) : ∀ o : List Bool, o.length - cnt o ≤ n → roundM gs (roundsM gs n o) = roundsM gs n o := by
  induction n with
  | zero =>
    intro o h
    simp only [roundsM]
    have h1 := cnt_le (roundFrom_sub gs 0 o)
    have h2 := cnt_max (roundFrom gs 0 o)
    have h3 := cnt_max o
    have h4 := roundM_len gs o
    unfold roundM at *
    exact (h1.2 (by omega)).symm
  | succ n ih =>
    intro o h
    by_cases e : roundM gs o = o
    · rw [roundsM_fixed gs (n + 1) o e]; exact e
    · simp only [roundsM]
      refine ih _ ?_
      have h1 := cnt_le (roundFrom_sub gs 0 o)
      have h4 := roundM_len gs o
      have : cnt o ≠ cnt (roundM gs o) := fun hc => e (h1.2 hc).symm
      unfold roundM at *
      omega
theorem roundsM_len (gs : List GateM) (n : Nat) : ∀ o, (roundsM gs n o).length = o.length := by
  induction n with
  | zero => intro o; rfl
  | succ n ih => intro o; simp only [roundsM]; rw [ih, roundM_len]
theorem roundsM_sub (gs : List GateM) (n : Nat) : ∀ o, subB o (roundsM gs n o) = true := by
  induction n with
  | zero => intro o; exact subB_refl o
  | succ n ih => intro o; exact subB_trans (roundFrom_sub gs 0 o) (ih _)
theorem roundsM_sound {gs : List GateM} {q : List Int} (ok : okArgs gs) (hq : inR gs.length q) (n : Nat) : ∀ o : List Bool, o.length = gs.length → (∀ i : Int, 0 ≤ i → onI o i = true → NReach gs q i) →
    ∀ i : Int, 0 ≤ i → onI (roundsM gs n o) i = true → NReach gs q i := by
  induction n with
  | zero => intro o _ h; exact h
  | succ n ih => intro o ho h; exact ih _ (by rw [roundM_len, ho]) (roundFrom_sound ok hq gs 0 o rfl ho h)
theorem onI_none (n : Nat) (k : Int) : onI (List.replicate n false) k = false := by
  unfold onI; rw [List.getElem?_replicate]; split <;> rfl
theorem needsM_len (gs : List GateM) (l : List Int) : (needsM gs l).length = gs.length := by simp [needsM, roundsM_len, markM_length]
theorem needsM_least {gs : List GateM} {l : List Int} (ok : okArgs gs) (hl : inR gs.length l) : Least gs l (needsM gs l) := by
  have hr : inR (List.replicate gs.length false).length l := by simpa using hl
  have h0 : ∀ k : Int, 0 ≤ k → (onI (markM (List.replicate gs.length false) l) k = true ↔ k ∈ l) := fun k k0 => by
    rw [onI_mark l k k0 _ hr, onI_none]; simp
  refine ⟨needsM_len _ _, fun k k0 h => ?_, fun k hk => ?_, fun k k0 h a ha => ?_⟩
  · exact roundsM_sound ok hl _ _ (by simp [markM_length]) (fun i i0 h => .base ((h0 i i0).1 h)) k k0 h
  · exact subB_at k.toNat (roundsM_sub gs _ _) ((h0 k (hl k hk).1).2 hk)
  · obtain ⟨g, hg, hm⟩ := argsI_mem ha
    have hf := roundsM_fix gs gs.length (markM (List.replicate gs.length false) l) (by simp [markM_length])
    refine roundFrom_fix ok gs 0 _ rfl (needsM_len gs l) (by rw [show roundFrom gs 0 (needsM gs l) = needsM gs l from hf]; exact subB_refl _) k.toNat g hg ?_ a hm
    have : ((0 + k.toNat : Nat) : Int) = k := by omega
    rw [this]; exact h

/-! the work list -/
structure NeedInv (gs : List GateM) (l : List Int) (o : List Bool) (work : List Int) : Prop where
  len : o.length = gs.length
  sound : ∀ k : Int, 0 ≤ k → onI o k = true → NReach gs l k
  ws : ∀ k ∈ work, NReach gs l k
  all : ∀ k ∈ l, onI o k = true ∨ k ∈ work
  closed : ∀ k : Int, 0 ≤ k → onI o k = true → ∀ a ∈ argsI gs k, onI o a = true ∨ a ∈ work
theorem NeedInv.start (gs : List GateM) (l : List Int) : NeedInv gs l (List.replicate gs.length false) l :=
  ⟨by simp, fun k _ h => absurd h (by rw [onI_none]; decide), fun k h => .base h, fun k h => .inr h, fun k _ h => absurd h (by rw [onI_none]; decide)⟩
theorem NeedInv.done {gs : List GateM} {l : List Int} {o : List Bool} (h : NeedInv gs l o []) (ok : okArgs gs) (hl : inR gs.length l) : o = needsM gs l := by
  refine Least.uniq (gs := gs) (l := l) ⟨h.len, h.sound, fun k hk => ?_, fun k k0 hk a ha => ?_⟩ (needsM_least ok hl) ok hl
  · rcases h.all k hk with e | e
    · exact e
    · cases e
  · rcases h.closed k k0 hk a ha with e | e
    · exact e
    · cases e
theorem NeedInv.skip {gs : List GateM} {l : List Int} {o : List Bool} {work : List Int} {k : Int} (h : NeedInv gs l o (work ++ [k])) (hk : onI o k = true) : NeedInv gs l o work :=
  ⟨h.len, h.sound, fun j hj => h.ws j (by simp [hj]), fun j hj => by
    rcases h.all j hj with e | e
    · exact .inl e
    · rcases List.mem_append.1 e with e | e
      · exact .inr e
      · simp at e; subst e; exact .inl hk, fun j j0 hj a ha => by
    rcases h.closed j j0 hj a ha with e | e
    · exact .inl e
    · rcases List.mem_append.1 e with e | e
      · exact .inr e
      · simp at e; subst e; exact .inl hk⟩
theorem NeedInv.range {gs : List GateM} {l : List Int} {o : List Bool} {work : List Int} {k : Int} (h : NeedInv gs l o (work ++ [k])) (ok : okArgs gs) (hl : inR gs.length l) : 0 ≤ k ∧ k < gs.length :=
  reach_range ok hl (h.ws k (by simp))
theorem NeedInv.mark {gs : List GateM} {l : List Int} {o : List Bool} {work : List Int} {k : Int} (h : NeedInv gs l o (work ++ [k])) (ok : okArgs gs) (hl : inR gs.length l) : NeedInv gs l (o.set k.toNat true) (work ++ argsI gs k) := by
  obtain ⟨k0, k1⟩ := h.range ok hl
  have hs : ∀ j : Int, 0 ≤ j → onI (o.set k.toNat true) j = (onI o j || decide (j = k)) := fun j j0 => onI_set o k j k0 (by rw [h.len]; exact k1) j0
  refine ⟨by simp [h.len], fun j j0 hj => ?_, fun j hj => ?_, fun j hj => ?_, fun j j0 hj a ha => ?_⟩
  · rw [hs j j0] at hj
    simp only [Bool.or_eq_true, decide_eq_true_eq] at hj
    rcases hj with e | rfl
    · exact h.sound j j0 e
    · exact h.ws _ (by simp)
  · rcases List.mem_append.1 hj with e | e
    · exact h.ws j (by simp [e])
    · exact .step (h.ws k (by simp)) e
  · rw [hs j (hl j hj).1]
    rcases h.all j hj with e | e
    · simp [e]
    · rcases List.mem_append.1 e with e | e
      · exact .inr (by simp [e])
      · simp at e; simp [e]
  · rw [hs j j0] at hj
    rw [hs a (argsI_range ok ha).1]
    simp only [Bool.or_eq_true, decide_eq_true_eq] at hj
    rcases hj with e | rfl
    · rcases h.closed j j0 e a ha with e | e
      · simp [e]
      · rcases List.mem_append.1 e with e | e
        · exact .inr (by simp [e])
        · simp at e; simp [e]
    · exact .inr (by simp [ha])
/-- What the gates that are not yet marked may still bring. -/
def costN : List GateM → List Bool → Nat
  | g :: gs, b :: o => (if b then 0 else g.args.length) + costN gs o
  | _, _ => 0
theorem costN_set : ∀ (gs : List GateM) (o : List Bool) (k : Nat) (g : GateM), gs[k]? = some g → o[k]? = some false → costN gs (o.set k true) + g.args.length = costN gs o
  | [], _, k, g, h, _ => by simp at h
  | x :: gs, [], k, g, _, h => by simp at h
  | x :: gs, b :: o, 0, g, h, h2 => by simp at h h2; subst h; subst h2; simp [costN]; omega
  | x :: gs, b :: o, k + 1, g, h, h2 => by
    have := costN_set gs o k g (by simpa using h) (by simpa using h2)
    simp [costN]; omega
theorem costN_le (m : Nat) : ∀ (gs : List GateM) (o : List Bool), (∀ g ∈ gs, g.args.length ≤ m) → costN gs o ≤ gs.length * m
  | [], _, _ => by simp [costN]
  | x :: gs, [], _ => by simp [costN]
  | x :: gs, b :: o, h => by
    have h1 := costN_le m gs o (fun g hg => h g (by simp [hg]))
    have h2 := h x (by simp)
    have h3 : (gs.length + 1) * m = gs.length * m + m := Nat.succ_mul _ _
    simp only [costN, List.length_cons, h3]
    split <;> omega

/-! the law NetTrue -/
theorem reach_mono {gs : List GateM} {l q : List Int} (h : ∀ k ∈ l, NReach gs q k) {k : Int} (r : NReach gs l k) : NReach gs q k := by
  induction r with
  | base hk => exact h _ hk
  | step _ ha ih => exact .step ih ha
theorem reach_append {gs : List GateM} {l q : List Int} {k : Int} : NReach gs (l ++ q) k ↔ NReach gs l k ∨ NReach gs q k := by
  constructor
  · intro r
    induction r with
    | base hk =>
      rcases List.mem_append.1 hk with e | e
      · exact .inl (.base e)
      · exact .inr (.base e)
    | step _ ha ih =>
      rcases ih with e | e
      · exact .inl (.step e ha)
      · exact .inr (.step e ha)
  · rintro (r | r)
    · exact reach_mono (fun k hk => .base (by simp [hk])) r
    · exact reach_mono (fun k hk => .base (by simp [hk])) r
theorem needs_more {gs : List GateM} {l : List Int} {g : Int} (ok : okArgs gs) (hl : inR gs.length l) (hg : 0 ≤ g ∧ g < gs.length) (j : Nat) :
    onI (needsM gs (l ++ [g])) j = (onI (needsM gs l) j || onI (needsM gs [g]) j) := by
  have h1 : inR gs.length [g] := fun k hk => by simp at hk; subst hk; exact hg
  have h2 : inR gs.length (l ++ [g]) := fun k hk => by
    rcases List.mem_append.1 hk with e | e
    · exact hl k e
    · exact h1 k e
  rw [Bool.eq_iff_iff, Bool.or_eq_true, (needsM_least ok h2).iff ok h2 (by omega), (needsM_least ok hl).iff ok hl (by omega), (needsM_least ok h1).iff ok h1 (by omega), reach_append]
theorem needs_same {gs : List GateM} {l : List Int} {g : Int} (ok : okArgs gs) (hl : inR gs.length l) (hg : 0 ≤ g ∧ g < gs.length) (hn : onI (needsM gs l) g = true) : needsM gs l = needsM gs (l ++ [g]) := by
  refine flags_ext (by simp [needsM_len]) fun k _ => ?_
  rw [needs_more ok hl hg]
  have h1 : inR gs.length [g] := fun k hk => by simp at hk; subst hk; exact hg
  cases e : onI (needsM gs [g]) k with
  | false => simp
  | true =>
    have r := (needsM_least ok h1).sound k (by omega) e
    have rg := (needsM_least ok hl).sound g hg.1 hn
    have := (needsM_least ok hl).iff ok hl (k := k) (by omega) |>.2 (reach_mono (fun x hx => by simp at hx; subst hx; exact rg) r)
    rw [this]; rfl
theorem needs_args {gs : List GateM} {l : List Int} {g a : Int} (ok : okArgs gs) (hl : inR gs.length l) (hg : 0 ≤ g) (hn : onI (needsM gs l) g = true) (ha : a ∈ argsI gs g) : onI (needsM gs l) a = true :=
  (needsM_least ok hl).closed g hg hn a ha
end Go.Proofs.Ytjagbnaacfhokaa
/- Three values, in plain Lean: what each function computes, and that the program and the reference compute the same. No program in sight. -/
namespace Go.Proofs.Ytjagbnaacfhokaa
set_option linter.unusedVariables false
set_option linter.unusedSimpArgs false

def bad3 (n : Int) : Bool := decide (n < 0) || decide (2 < n)
def gatherM (rules : Int) : List Int → Int → Int
  | [], out => out
  | v :: l, out => if v = rules then rules else gatherM rules l (if v = 2 then 2 else out)

def indexM (q : Int → Bool) : List Int → Int → Int
  | [], _ => -1
  | x :: l, k => if q x then k else indexM q l (k + 1)

theorem indexM_lo (q : Int → Bool) (l : List Int) : ∀ k : Int, 0 ≤ k → decide (0 ≤ indexM q l k) = l.any q := by
  induction l with
  | nil => intro k _; simp [indexM]
  | cons x l ih =>
    intro k hk
    by_cases h : q x = true
    · simp [indexM, h, hk]
    · simp only [indexM, h, List.any_cons]; simpa using ih (k + 1) (by omega)

def checkM (l : List Int) : Int := if l.any bad3 then 3 else 0

def notM (v : Int) : Int := if v = 0 then 1 else if v = 1 then 0 else 2
def ofM (kind : Int) (l : List Int) : Int :=
  if kind = 4 then gatherM 0 l 1 else if kind = 5 then gatherM 1 l 0 else notM (l.headD 0)

def toldM (kind : Int) (l : List Int) : Int × Int := if l.any bad3 then (0, 3) else (ofM kind l, 0)

def valuesM (l : List Int) : Bool := l.all fun v => decide (0 ≤ v) && decide (v ≤ 2)
def countM (v : Int) : List Int → Int → Int
  | [], n => n
  | x :: l, n => countM v l (if x = v then n + 1 else n)

theorem countM_le (v : Int) (l : List Int) : ∀ n : Int, n ≤ countM v l n ∧ countM v l n ≤ n + l.length := by
  induction l with
  | nil => intro n; simp [countM]
  | cons x l ih =>
    intro n
    by_cases hx : x = v
    · have := ih (n + 1)
      simp only [countM, List.length_cons, if_pos hx]; omega
    · have := ih n
      simp only [countM, List.length_cons, if_neg hx]; omega

def allM (l : List Int) : Int := if countM 0 l 0 > 0 then 0 else if countM 2 l 0 > 0 then 2 else 1
def anyM (l : List Int) : Int := if countM 1 l 0 > 0 then 1 else if countM 2 l 0 > 0 then 2 else 0
def rnotM (v : Int) : Int := if v = 2 then 2 else 1 - v
def leqM : List Int → List Int → Bool
  | x :: a, y :: b => (decide (x = 2) || decide (x = y)) && leqM a b
  | _, _ => true

def rleqOfM (xs ys : List Int) : Bool × Int :=
  if !valuesM xs || !valuesM ys then (false, 3) else if xs.length ≠ ys.length then (false, 1) else (leqM xs ys, 0)
def leqOfM (xs ys : List Int) : Bool × Int :=
  if xs.any bad3 then (false, 3) else if ys.any bad3 then (false, 3) else if xs.length ≠ ys.length then (false, 1) else (leqM xs ys, 0)

theorem checkM_bad {xs : List Int} (h : xs.any bad3 = true) : checkM xs = 3 := by simp [checkM, h]
theorem checkM_ok {xs : List Int} (h : xs.any bad3 = false) : checkM xs = 0 := by simp only [checkM, h]; rfl


/-! the plain laws -/
theorem gatherM_eq (r : Int) (hr : r ≠ 2) (l : List Int) : ∀ out, gatherM r l out = if r ∈ l then r else if (2 : Int) ∈ l then 2 else out := by
  induction l with
  | nil => intro out; simp [gatherM]
  | cons x l ih =>
    intro out
    by_cases h : x = r
    · subst h; simp [gatherM]
    · have h' : ¬ r = x := fun e => h e.symm
      by_cases h2 : x = 2
      · subst h2; simp only [gatherM, if_neg h, if_true, ih]; simp [h']
      · have h2' : ¬ 2 = x := fun e => h2 e.symm
        simp only [gatherM, if_neg h, if_neg h2, ih]; simp [h', h2']
theorem countM_pos (v : Int) (l : List Int) : ∀ n : Int, (0 < countM v l n ↔ 0 < n ∨ v ∈ l) ∨ n < 0 := by
  induction l with
  | nil => intro n; simp [countM]
  | cons x l ih =>
    intro n
    by_cases hn : n < 0
    · exact .inr hn
    · left
      by_cases h : x = v
      · subst h
        rcases ih (n + 1) with e | e
        · simp only [countM, if_true, e]; simp; omega
        · omega
      · have h' : ¬ v = x := fun e => h e.symm
        rcases ih n with e | e
        · simp only [countM, if_neg h, e]; simp [h']
        · omega
theorem countM_mem (v : Int) (l : List Int) : (0 < countM v l 0) = (v ∈ l) := by
  rcases countM_pos v l 0 with e | e
  · simpa using e
  · omega
theorem valuesM_eq (l : List Int) : valuesM l = !(l.any bad3) := by
  induction l with
  | nil => rfl
  | cons x l ih =>
    have hx : (decide (0 ≤ x) && decide (x ≤ 2)) = !bad3 x := by
      rw [Bool.eq_iff_iff]; simp [bad3]
    simp only [valuesM, List.all_cons, List.any_cons, Bool.not_or] at *
    rw [ih, hx]
theorem allM_eq (l : List Int) : allM l = ofM 4 l := by
  simp only [allM, ofM, if_true, gatherM_eq 0 (by decide), gt_iff_lt, countM_mem]
theorem anyM_eq (l : List Int) : anyM l = ofM 5 l := by
  have h : ¬ (5 : Int) = 4 := by decide
  simp only [anyM, ofM, if_neg h, if_true, gatherM_eq 1 (by decide), gt_iff_lt, countM_mem]
theorem rnotM_eq (x : Int) (h0 : 0 ≤ x) (h1 : x ≤ 2) : rnotM x = ofM 6 [x] := by
  have : x = 0 ∨ x = 1 ∨ x = 2 := by omega
  rcases this with rfl | rfl | rfl <;> decide
theorem leqOfM_eq (xs ys : List Int) : rleqOfM xs ys = leqOfM xs ys := by
  simp only [rleqOfM, leqOfM, valuesM_eq, Bool.not_not]
  cases xs.any bad3 <;> cases ys.any bad3 <;> simp
theorem told_all (l : List Int) : toldM 4 l = (if valuesM l then allM l else 0, if valuesM l then 0 else 3) := by
  rw [toldM, valuesM_eq, allM_eq]; cases l.any bad3 <;> simp
theorem told_any (l : List Int) : toldM 5 l = (if valuesM l then anyM l else 0, if valuesM l then 0 else 3) := by
  rw [toldM, valuesM_eq, anyM_eq]; cases l.any bad3 <;> simp
theorem told_not (x : Int) : toldM 6 [x] = (if valuesM [x] then rnotM x else 0, if valuesM [x] then 0 else 3) := by
  rw [toldM]
  by_cases h : valuesM [x] = true
  · have hb : [x].any bad3 = false := by rw [valuesM_eq] at h; simpa using h
    have hx : 0 ≤ x ∧ x ≤ 2 := by simpa [valuesM] using h
    rw [h, hb, rnotM_eq x hx.1 hx.2]; simp
  · have h : valuesM [x] = false := by simpa using h
    have hb : [x].any bad3 = true := by rw [valuesM_eq] at h; simpa using h
    rw [h, hb]; simp
theorem check_values (l : List Int) : (checkM l == 0) = valuesM l := by
  rw [valuesM_eq, checkM]; cases l.any bad3 <;> simp

theorem good3 {x : Int} (h : bad3 x = false) : x = 0 ∨ x = 1 ∨ x = 2 := by simp [bad3] at h; omega
theorem notM_good (x : Int) : bad3 (notM x) = false := by
  unfold notM; split
  · rfl
  · split <;> rfl
theorem ofM4_good (l : List Int) : bad3 (ofM 4 l) = false := by
  simp only [ofM, if_true, gatherM_eq 0 (by decide)]; repeat' split
  all_goals rfl
theorem all_turned (l : List Int) (h : l.any bad3 = false) : ofM 5 (l.map notM) = notM (ofM 4 l) := by
  have h5 : ¬ (5 : Int) = 4 := by decide
  simp only [ofM, if_true, if_neg h5, gatherM_eq 0 (by decide), gatherM_eq 1 (by decide)]
  have e1 : (1 ∈ l.map notM) = (0 ∈ l) := by
    rw [eq_iff_iff, List.mem_map]
    constructor
    · rintro ⟨x, hx, e⟩
      have : x = 0 := by
        unfold notM at e; split at e
        · assumption
        · split at e <;> omega
      rwa [this] at hx
    · exact fun hx => ⟨0, hx, rfl⟩
  have e2 : (2 ∈ l.map notM) = (2 ∈ l) := by
    rw [eq_iff_iff, List.mem_map]
    constructor
    · rintro ⟨x, hx, e⟩
      have hb : bad3 x = false := by
        have := List.any_eq_false.1 h x hx; simpa using this
      rcases good3 hb with rfl | rfl | rfl
      · simp [notM] at e
      · simp [notM] at e
      · exact hx
    · exact fun hx => ⟨2, hx, rfl⟩
  simp only [e1, e2]
  by_cases h0 : (0 : Int) ∈ l
  · simp [h0, notM]
  · by_cases h2 : (2 : Int) ∈ l
    · simp [h0, h2, notM]
    · simp [h0, h2, notM]
theorem leqM_mem (r : Int) : ∀ xs ys : List Int, xs.length = ys.length → leqM xs ys = true → r ≠ 2 → r ∈ xs → r ∈ ys
  | [], _, _, _, _, h => by simp at h
  | x :: xs, [], hl, _, _, _ => by simp at hl
  | x :: xs, y :: ys, hl, h, hr, hm => by
    simp only [leqM, Bool.and_eq_true, Bool.or_eq_true, decide_eq_true_eq] at h
    rcases List.mem_cons.1 hm with e | e
    · subst e
      rcases h.1 with h1 | h1
      · exact absurd h1 hr
      · subst h1; simp
    · exact List.mem_cons_of_mem _ (leqM_mem r xs ys (by simpa using hl) h.2 hr e)
theorem leqM_open : ∀ xs ys : List Int, xs.length = ys.length → leqM xs ys = true → (2 : Int) ∉ xs → xs = ys
  | [], [], _, _, _ => rfl
  | [], y :: ys, hl, _, _ => by simp at hl
  | x :: xs, [], hl, _, _ => by simp at hl
  | x :: xs, y :: ys, hl, h, hm => by
    simp only [leqM, Bool.and_eq_true, Bool.or_eq_true, decide_eq_true_eq] at h
    have hx : ¬ x = 2 := fun e => hm (by simp [e])
    rcases h.1 with h1 | h1
    · exact absurd h1 hx
    · rw [h1, leqM_open xs ys (by simpa using hl) h.2 (fun e => hm (List.mem_cons_of_mem _ e))]
theorem leq_of (k : Int) (hk : k = 4 ∨ k = 5) (xs ys : List Int) (hl : xs.length = ys.length) (h : leqM xs ys = true) : ofM k xs = 2 ∨ ofM k xs = ofM k ys := by
  have h5 : ¬ (5 : Int) = 4 := by decide
  by_cases hm : (2 : Int) ∈ xs
  · rcases hk with rfl | rfl
    · by_cases h0 : (0 : Int) ∈ xs
      · right; have := leqM_mem 0 xs ys hl h (by decide) h0; simp [ofM, gatherM_eq 0, h0, this]
      · left; simp [ofM, gatherM_eq 0, h0, hm]
    · by_cases h0 : (1 : Int) ∈ xs
      · right; have := leqM_mem 1 xs ys hl h (by decide) h0; simp [ofM, gatherM_eq 1, h0, this]
      · left; simp [ofM, gatherM_eq 1, h0, hm]
  · right; rw [leqM_open xs ys hl h hm]
end Go.Proofs.Ytjagbnaacfhokaa
/- What is settled, in plain Lean: rounds and the work list tell the same, the least that solves. No program in sight. -/
namespace Go.Proofs.Ytjagbnaacfhokaa
set_option linter.unusedVariables false
set_option linter.unusedSimpArgs false

def valI (v : List Int) (k : Int) : Int := v[k.toNat]?.getD 0
def worthM (regs ins v : List Int) (g : GateM) : Int :=
  if g.kind = 0 then 0 else if g.kind = 1 then 1 else if g.kind = 2 then valI ins g.num else if g.kind = 3 then valI regs g.num
  else ofM g.kind (g.args.map (valI v))
def nextV (gs : List GateM) (regs ins v : List Int) : List Int := gs.map (worthM regs ins v)
def itV (gs : List GateM) (regs ins : List Int) : Nat → List Int → List Int
  | 0, v => v
  | n + 1, v => itV gs regs ins n (nextV gs regs ins v)
def opensM (n : Nat) : List Int := List.replicate n 2
def settledM (gs : List GateM) (regs ins : List Int) : List Int := itV gs regs ins gs.length (opensM gs.length)
def goodL (l : List Int) : Prop := ∀ x ∈ l, x = 0 ∨ x = 1 ∨ x = 2
def leI (x y : Int) : Prop := x = 2 ∨ x = y

theorem goodL_of {l : List Int} (h : l.any bad3 = false) : goodL l := fun x hx => good3 (by have := List.any_eq_false.1 h x hx; simpa using this)
theorem goodL_any {l : List Int} (h : goodL l) : l.any bad3 = false := by
  rw [List.any_eq_false]; intro x hx
  rcases h x hx with rfl | rfl | rfl <;> decide
theorem leI.refl (x : Int) : leI x x := .inr rfl
theorem leI.trans {x y z : Int} (h : leI x y) (k : leI y z) : leI x z := by
  rcases h with h | rfl
  · exact .inl h
  · exact k
theorem leI.anti {x y : Int} (h : leI x y) (k : leI y x) : x = y := by
  rcases h with rfl | h
  · rcases k with h | h <;> omega
  · exact h

/-! leqM: as lists -/
theorem leqM_refl (a : List Int) : leqM a a = true := by
  induction a with
  | nil => rfl
  | cons x a ih => simp [leqM, ih]
theorem leqM_iff : ∀ {a b : List Int}, a.length = b.length → (leqM a b = true ↔ ∀ k : Nat, k < a.length → leI (a[k]?.getD 0) (b[k]?.getD 0))
  | [], [], _ => by simp [leqM]
  | [], y :: b, h => by simp at h
  | x :: a, [], h => by simp at h
  | x :: a, y :: b, h => by
    have ih := leqM_iff (a := a) (b := b) (by simpa using h)
    simp only [leqM, Bool.and_eq_true, Bool.or_eq_true, decide_eq_true_eq, ih]
    constructor
    · rintro ⟨h1, h2⟩ k hk
      cases k with
      | zero => simpa [leI] using h1
      | succ k => simpa using h2 k (by simpa using hk)
    · intro h2
      exact ⟨by simpa [leI] using h2 0 (by simp), fun k hk => by simpa using h2 (k + 1) (by simpa using hk)⟩
theorem leqM_val {a b : List Int} (hl : a.length = b.length) (h : leqM a b = true) (k : Int) : leI (valI a k) (valI b k) := by
  unfold valI
  rcases Nat.lt_or_ge k.toNat a.length with e | e
  · exact (leqM_iff hl).1 h _ e
  · rw [List.getElem?_eq_none e, List.getElem?_eq_none (by omega)]; exact leI.refl _
theorem leqM_of_val {a b : List Int} (hl : a.length = b.length) (h : ∀ k : Nat, k < a.length → leI (valI a k) (valI b k)) : leqM a b = true :=
  (leqM_iff hl).2 fun k hk => by have := h k hk; simpa [valI] using this
theorem leqM_trans {a b c : List Int} (h1 : a.length = b.length) (h2 : b.length = c.length) (h : leqM a b = true) (k : leqM b c = true) : leqM a c = true :=
  leqM_of_val (by omega) fun i _ => (leqM_val h1 h i).trans (leqM_val h2 k i)
theorem val_ext {a b : List Int} (hl : a.length = b.length) (h : ∀ k : Nat, k < a.length → valI a k = valI b k) : a = b := by
  apply List.ext_getElem hl
  intro i h1 h2
  have := h i h1
  simpa [valI, List.getElem?_eq_getElem h1, List.getElem?_eq_getElem h2] using this
theorem leqM_anti {a b : List Int} (hl : a.length = b.length) (h : leqM a b = true) (k : leqM b a = true) : a = b :=
  val_ext hl fun i _ => (leqM_val hl h i).anti (leqM_val hl.symm k i)
theorem leqM_opens (v : List Int) : leqM (opensM v.length) v = true := by
  refine leqM_of_val (by simp [opensM]) fun k hk => ?_
  left; simp only [opensM, List.length_replicate] at hk
  simp [valI, opensM, hk]

/-! gates -/
theorem leqM_map {v u : List Int} (hl : v.length = u.length) (h : leqM v u = true) (l : List Int) : leqM (l.map (valI v)) (l.map (valI u)) = true := by
  induction l with
  | nil => rfl
  | cons a l ih =>
    simp only [List.map_cons, leqM, ih, Bool.and_true, Bool.or_eq_true, decide_eq_true_eq]
    exact leqM_val hl h a
theorem worth_mono {regs regs' ins ins' v u : List Int} (hr : regs.length = regs'.length) (hi : ins.length = ins'.length) (hl : v.length = u.length)
    (h1 : leqM regs regs' = true) (h2 : leqM ins ins' = true) (h : leqM v u = true) (g : GateM) : leI (worthM regs ins v g) (worthM regs' ins' u g) := by
  unfold worthM
  split
  · exact leI.refl _
  split
  · exact leI.refl _
  split
  · exact leqM_val hi h2 _
  split
  · exact leqM_val hr h1 _
  have hm := leqM_map hl h g.args
  by_cases k4 : g.kind = 4
  · exact leq_of _ (.inl k4) _ _ (by simp) hm
  by_cases k5 : g.kind = 5
  · exact leq_of _ (.inr k5) _ _ (by simp) hm
  simp only [ofM, if_neg k4, if_neg k5]
  cases hg : g.args with
  | nil => exact leI.refl _
  | cons a l =>
    simp only [List.map_cons, List.headD_cons]
    rcases leqM_val hl h a with e | e
    · left; rw [e]; rfl
    · right; rw [e]
theorem next_len (gs : List GateM) (regs ins v : List Int) : (nextV gs regs ins v).length = gs.length := by simp [nextV]
theorem next_val {gs : List GateM} {regs ins v : List Int} {k : Nat} {g : GateM} (h : gs[k]? = some g) : valI (nextV gs regs ins v) k = worthM regs ins v g := by
  simp [valI, nextV, h]
theorem next_mono {gs : List GateM} {regs regs' ins ins' v u : List Int} (hr : regs.length = regs'.length) (hi : ins.length = ins'.length) (hl : v.length = u.length)
    (h1 : leqM regs regs' = true) (h2 : leqM ins ins' = true) (h : leqM v u = true) : leqM (nextV gs regs ins v) (nextV gs regs' ins' u) = true := by
  refine leqM_of_val (by simp [next_len]) fun k hk => ?_
  rw [next_len] at hk
  rw [next_val (List.getElem?_eq_getElem hk), next_val (List.getElem?_eq_getElem hk)]
  exact worth_mono hr hi hl h1 h2 h _
theorem valI_good {v : List Int} (h : goodL v) (k : Int) : valI v k = 0 ∨ valI v k = 1 ∨ valI v k = 2 := by
  unfold valI
  cases e : v[k.toNat]? with
  | none => left; rfl
  | some x => exact h x (List.mem_of_getElem? e)
theorem ofM_good {l : List Int} (hk : goodL l) (k : Int) : ofM k l = 0 ∨ ofM k l = 1 ∨ ofM k l = 2 := by
  unfold ofM
  split
  · rw [gatherM_eq 0 (by decide)]; repeat' split
    all_goals simp
  split
  · rw [gatherM_eq 1 (by decide)]; repeat' split
    all_goals simp
  · exact good3 (notM_good _)
theorem worth_good {regs ins v : List Int} (hr : goodL regs) (hi : goodL ins) (hv : goodL v) (g : GateM) : worthM regs ins v g = 0 ∨ worthM regs ins v g = 1 ∨ worthM regs ins v g = 2 := by
  unfold worthM
  split
  · simp
  split
  · simp
  split
  · exact valI_good hi _
  split
  · exact valI_good hr _
  refine ofM_good (fun x hx => ?_) _
  obtain ⟨a, _, rfl⟩ := List.mem_map.1 hx
  exact valI_good hv a
theorem next_good {gs : List GateM} {regs ins v : List Int} (hr : goodL regs) (hi : goodL ins) (hv : goodL v) : goodL (nextV gs regs ins v) := fun x hx => by
  obtain ⟨g, _, rfl⟩ := List.mem_map.1 hx
  exact worth_good hr hi hv g

/-! the least that solves -/
structure LeastV (gs : List GateM) (regs ins v : List Int) : Prop where
  len : v.length = gs.length
  fix : nextV gs regs ins v = v
  least : ∀ u : List Int, u.length = gs.length → nextV gs regs ins u = u → leqM v u = true
theorem LeastV.uniq {gs : List GateM} {regs ins v u : List Int} (h : LeastV gs regs ins v) (k : LeastV gs regs ins u) : v = u :=
  leqM_anti (by rw [h.len, k.len]) (h.least u k.len k.fix) (k.least v h.len h.fix)
def cntV (v : List Int) : Nat := v.countP (fun x => !decide (x = 2))
theorem cntV_le : ∀ {a b : List Int}, a.length = b.length → leqM a b = true → cntV a ≤ cntV b ∧ (cntV a = cntV b → a = b)
  | [], [], _, _ => ⟨Nat.le_refl _, fun _ => rfl⟩
  | [], y :: b, h, _ => by simp at h
  | x :: a, [], h, _ => by simp at h
  | x :: a, y :: b, h, k => by
    simp only [leqM, Bool.and_eq_true, Bool.or_eq_true, decide_eq_true_eq] at k
    obtain ⟨h1, h2⟩ := cntV_le (a := a) (b := b) (by simpa using h) k.2
    unfold cntV at *
    rcases k.1 with e | e
    · subst e
      by_cases hy : y = 2
      · subst hy; simp_all
      · simp [hy]; constructor <;> omega
    · subst e
      by_cases hx : x = 2
      · subst hx; simp_all
      · simp [hx]; exact ⟨h1, h2⟩
theorem cntV_max (v : List Int) : cntV v ≤ v.length := List.countP_le_length
/-- A state of the rounds: it grows, and says no more than whatever solves. -/
structure RoundV (gs : List GateM) (regs ins v : List Int) : Prop where
  len : v.length = gs.length
  up : leqM v (nextV gs regs ins v) = true
  below : ∀ u : List Int, u.length = gs.length → nextV gs regs ins u = u → leqM v u = true
theorem RoundV.start (gs : List GateM) (regs ins : List Int) : RoundV gs regs ins (opensM gs.length) :=
  ⟨by simp [opensM], by have := leqM_opens (nextV gs regs ins (opensM gs.length)); rwa [next_len] at this, fun u hu _ => by have := leqM_opens u; rwa [hu] at this⟩
theorem RoundV.next {gs : List GateM} {regs ins v : List Int} (h : RoundV gs regs ins v) : RoundV gs regs ins (nextV gs regs ins v) :=
  ⟨next_len _ _ _ _, next_mono rfl rfl (by rw [next_len, h.len]) (leqM_refl _) (leqM_refl _) h.up, fun u hu hf => by
    have := next_mono (gs := gs) (regs := regs) (ins := ins) rfl rfl (by rw [h.len, hu]) (leqM_refl _) (leqM_refl _) (h.below u hu hf)
    rwa [hf] at this⟩
theorem RoundV.more {gs : List GateM} {regs ins v : List Int} (h : RoundV gs regs ins v) (hn : nextV gs regs ins v ≠ v) : cntV v < cntV (nextV gs regs ins v) := by
  have h1 := cntV_le (by rw [next_len, h.len]) h.up
  rcases Nat.lt_or_ge (cntV v) (cntV (nextV gs regs ins v)) with e | e
  · exact e
  · exact absurd (h1.2 (by omega)).symm hn
theorem RoundV.done {gs : List GateM} {regs ins v : List Int} (h : RoundV gs regs ins v) (hf : nextV gs regs ins v = v) : LeastV gs regs ins v := ⟨h.len, hf, h.below⟩
theorem itV_fixed {gs : List GateM} {regs ins : List Int} (n : Nat) : ∀ {v : List Int}, nextV gs regs ins v = v → itV gs regs ins n v = v := by
  induction n with
  | zero => intro v _; rfl
  | succ n ih => intro v h; simp only [itV, h]; exact ih h
theorem itV_least {gs : List GateM} {regs ins : List Int} (n : Nat) : ∀ {v : List Int}, RoundV gs regs ins v → gs.length ≤ n + cntV v → LeastV gs regs ins (itV gs regs ins n v) := by
  induction n with
  | zero =>
    intro v h hn
    refine h.done ?_
    have h1 := cntV_le (by rw [next_len, h.len]) h.up
    have h2 := cntV_max (nextV gs regs ins v)
    rw [next_len] at h2
    exact (h1.2 (by omega)).symm
  | succ n ih =>
    intro v h hn
    by_cases e : nextV gs regs ins v = v
    · rw [itV_fixed _ e]; exact h.done e
    · exact ih h.next (by have := h.more e; omega)
theorem settled_least (gs : List GateM) (regs ins : List Int) : LeastV gs regs ins (settledM gs regs ins) := itV_least _ (RoundV.start gs regs ins) (by omega)
theorem settled_eq {gs : List GateM} {regs ins v : List Int} (h : RoundV gs regs ins v) (hf : nextV gs regs ins v = v) : v = settledM gs regs ins := (h.done hf).uniq (settled_least _ _ _)
theorem settled_len (gs : List GateM) (regs ins : List Int) : (settledM gs regs ins).length = gs.length := (settled_least gs regs ins).len
theorem itV_good {gs : List GateM} {regs ins : List Int} (hr : goodL regs) (hi : goodL ins) (n : Nat) : ∀ {v : List Int}, goodL v → goodL (itV gs regs ins n v) := by
  induction n with
  | zero => intro v h; exact h
  | succ n ih => intro v h; exact ih (next_good hr hi h)
theorem opens_good (n : Nat) : goodL (opensM n) := fun x hx => by rw [opensM, List.mem_replicate] at hx; exact .inr (.inr hx.2)
theorem settled_good {gs : List GateM} {regs ins : List Int} (hr : goodL regs) (hi : goodL ins) : goodL (settledM gs regs ins) := itV_good hr hi _ (opens_good _)
theorem itV_mono {gs : List GateM} {regs regs' ins ins' : List Int} (hr : regs.length = regs'.length) (hi : ins.length = ins'.length) (h1 : leqM regs regs' = true) (h2 : leqM ins ins' = true) (n : Nat) :
    ∀ {v u : List Int}, v.length = u.length → leqM v u = true → leqM (itV gs regs ins n v) (itV gs regs' ins' n u) = true := by
  induction n with
  | zero => intro v u _ h; exact h
  | succ n ih => intro v u hl h; exact ih (by simp [next_len]) (next_mono hr hi hl h1 h2 h)
theorem settled_mono {gs : List GateM} {regs regs' ins ins' : List Int} (hr : regs.length = regs'.length) (hi : ins.length = ins'.length) (h1 : leqM regs regs' = true) (h2 : leqM ins ins' = true) :
    leqM (settledM gs regs ins) (settledM gs regs' ins') = true := itV_mono hr hi h1 h2 _ rfl (leqM_refl _)

/-! the users of each gate -/
def addUses (u : List (List Int)) (k : Int) (args : List Int) : List (List Int) := args.foldl (fun u a => u.modify a.toNat (· ++ [k])) u
def usersFrom : List GateM → Nat → List (List Int) → List (List Int)
  | [], _, u => u
  | g :: l, k, u => usersFrom l (k + 1) (addUses u k g.args)
def usersM (gs : List GateM) : List (List Int) := usersFrom gs 0 (List.replicate gs.length [])
def useI (u : List (List Int)) (a : Int) : List Int := u[a.toNat]?.getD []
def totalU (u : List (List Int)) : Nat := (u.map List.length).sum
theorem addUses_len (k : Int) (args : List Int) : ∀ u, (addUses u k args).length = u.length := by
  induction args with
  | nil => intro u; rfl
  | cons a l ih => intro u; simp only [addUses, List.foldl_cons] at *; rw [ih]; simp
theorem usersFrom_len (l : List GateM) : ∀ k u, (usersFrom l k u).length = u.length := by
  induction l with
  | nil => intro k u; rfl
  | cons g l ih => intro k u; simp only [usersFrom]; rw [ih, addUses_len]
theorem useI_modify (u : List (List Int)) (a b k : Int) (ha : 0 ≤ a) (hb : 0 ≤ b) : useI (u.modify a.toNat (· ++ [k])) b = if a = b ∧ a < u.length then useI u b ++ [k] else useI u b := by
  unfold useI
  rw [List.getElem?_modify]
  by_cases e : a = b
  · subst e
    rcases Nat.lt_or_ge a.toNat u.length with h | h
    · rw [List.getElem?_eq_getElem h]; rw [if_pos ⟨rfl, by omega⟩]; simp
    · rw [List.getElem?_eq_none h]; rw [if_neg (by omega)]; simp
  · have : ¬ a.toNat = b.toNat := by omega
    simp [this, e]
theorem mem_addUses (k j b : Int) (hb : 0 ≤ b) (args : List Int) : ∀ u : List (List Int), (∀ a ∈ args, 0 ≤ a ∧ a < u.length) → (j ∈ useI (addUses u k args) b ↔ j ∈ useI u b ∨ (j = k ∧ b ∈ args)) := by
  induction args with
  | nil => intro u _; simp [addUses]
  | cons a l ih =>
    intro u h
    have ha := h a (by simp)
    have h2 := ih (u.modify a.toNat (· ++ [k])) (fun x hx => by simpa using h x (by simp [hx]))
    simp only [addUses, List.foldl_cons] at h2 ⊢
    rw [h2, useI_modify u a b k ha.1 hb]
    by_cases e : a = b
    · subst e; rw [if_pos ⟨rfl, ha.2⟩]; simp only [List.mem_append, List.mem_cons, List.not_mem_nil, or_false]
      constructor
      · rintro ((h | h) | h)
        · exact .inl h
        · exact .inr ⟨h, by simp⟩
        · exact .inr ⟨h.1, by simp⟩
      · rintro (h | h)
        · exact .inl (.inl h)
        · exact .inl (.inr h.1)
    · have e' : ¬ b = a := fun x => e x.symm
      rw [if_neg (fun x => e x.1)]; simp [e']
theorem mem_usersFrom {gs : List GateM} (j b : Int) (hb : 0 ≤ b) (ok : ∀ g ∈ gs, ∀ a ∈ g.args, 0 ≤ a ∧ a < gs.length) (l : List GateM) : ∀ (k : Nat) (u : List (List Int)), gs.drop k = l → u.length = gs.length →
    (j ∈ useI (usersFrom l k u) b ↔ j ∈ useI u b ∨ ∃ (i : Nat) (g : GateM), l[i]? = some g ∧ j = ((k + i : Nat) : Int) ∧ b ∈ g.args) := by
  induction l with
  | nil => intro k u _ _; simp [usersFrom]
  | cons g l ih =>
    intro k u hd hu
    have hk : gs[k]? = some g := by
      have : (gs.drop k)[0]? = some g := by rw [hd]; rfl
      simpa using this
    have hd' : gs.drop (k + 1) = l := by rw [← List.drop_drop, hd]; rfl
    simp only [usersFrom]
    rw [ih (k + 1) _ hd' (by rw [addUses_len, hu]), mem_addUses k j b hb g.args u (by rw [hu]; exact ok g (List.mem_of_getElem? hk))]
    constructor
    · rintro ((h | ⟨rfl, h⟩) | ⟨i, x, h1, h2, h3⟩)
      · exact .inl h
      · exact .inr ⟨0, g, rfl, by simp, h⟩
      · exact .inr ⟨i + 1, x, by simpa using h1, by rw [h2]; omega, h3⟩
    · rintro (h | ⟨i, x, h1, h2, h3⟩)
      · exact .inl (.inl h)
      · cases i with
        | zero => simp at h1; subst h1; exact .inl (.inr ⟨by simpa using h2, h3⟩)
        | succ i => exact .inr ⟨i, x, by simpa using h1, by rw [h2]; omega, h3⟩
theorem mem_users {gs : List GateM} (ok : ∀ g ∈ gs, ∀ a ∈ g.args, 0 ≤ a ∧ a < gs.length) {j b : Int} (hb : 0 ≤ b) :
    j ∈ useI (usersM gs) b ↔ ∃ (i : Nat) (g : GateM), gs[i]? = some g ∧ j = (i : Int) ∧ b ∈ g.args := by
  unfold usersM
  rw [mem_usersFrom j b hb ok gs 0 _ rfl (by simp)]
  have : j ∉ useI (List.replicate gs.length []) b := by unfold useI; rw [List.getElem?_replicate]; split <;> simp
  simp [this]
theorem total_modify (k : Int) : ∀ (u : List (List Int)) (i : Nat), totalU (u.modify i (· ++ [k])) ≤ totalU u + 1
  | [], i => by simp [totalU]
  | x :: u, 0 => by simp [totalU]; omega
  | x :: u, i + 1 => by have := total_modify k u i; simp [totalU] at *; omega
theorem total_add (k : Int) (args : List Int) : ∀ u, totalU (addUses u k args) ≤ totalU u + args.length := by
  induction args with
  | nil => intro u; simp [addUses]
  | cons a l ih =>
    intro u
    have h1 := ih (u.modify a.toNat (· ++ [k]))
    have h2 := total_modify k u a.toNat
    simp only [addUses, List.foldl_cons, List.length_cons] at *
    omega
theorem total_from (m : Nat) (l : List GateM) (h : ∀ g ∈ l, g.args.length ≤ m) : ∀ k u, totalU (usersFrom l k u) ≤ totalU u + l.length * m := by
  induction l with
  | nil => intro k u; simp [usersFrom]
  | cons g l ih =>
    intro k u
    have h1 := ih (fun x hx => h x (by simp [hx])) (k + 1) (addUses u k g.args)
    have h2 := total_add k g.args u
    have h3 := h g (by simp)
    have h4 : (l.length + 1) * m = l.length * m + m := Nat.succ_mul _ _
    simp only [usersFrom, List.length_cons, h4]; omega
theorem total_users (m : Nat) (gs : List GateM) (h : ∀ g ∈ gs, g.args.length ≤ m) : totalU (usersM gs) ≤ gs.length * m := by
  have h1 := total_from m gs h 0 (List.replicate gs.length [])
  have h2 : totalU (List.replicate gs.length []) = 0 := by simp [totalU]
  rw [h2] at h1; unfold usersM; omega

/-! the work list -/
structure SInv (gs : List GateM) (regs ins v : List Int) (work : List Int) : Prop where
  len : v.length = gs.length
  good : goodL v
  below : ∀ u : List Int, u.length = gs.length → nextV gs regs ins u = u → leqM v u = true
  asc : ∀ (k : Nat) (g : GateM), gs[k]? = some g → valI v k ≠ 2 → worthM regs ins v g = valI v k
  wait : ∀ (k : Nat) (g : GateM), gs[k]? = some g → valI v k = 2 → (k : Int) ∉ work → worthM regs ins v g = 2
  ws : ∀ k ∈ work, 0 ≤ k ∧ k < gs.length
theorem SInv.start (gs : List GateM) (regs ins : List Int) (work : List Int) (hw : ∀ k : Int, k ∈ work ↔ 0 ≤ k ∧ k < gs.length) : SInv gs regs ins (opensM gs.length) work := by
  refine ⟨by simp [opensM], opens_good _, fun u hu _ => by have := leqM_opens u; rwa [hu] at this, fun k g hk h => absurd ?_ h, fun k g hk _ hn => absurd ?_ hn, fun k hk => (hw k).1 hk⟩
  · have : k < gs.length := (List.getElem?_eq_some_iff.1 hk).1
    simp [valI, opensM, this]
  · have : k < gs.length := (List.getElem?_eq_some_iff.1 hk).1
    exact (hw k).2 (by omega)
theorem SInv.done {gs : List GateM} {regs ins v : List Int} (h : SInv gs regs ins v []) : v = settledM gs regs ins := by
  have hf : nextV gs regs ins v = v := by
    refine val_ext (by rw [next_len, h.len]) fun k hk => ?_
    rw [next_len] at hk
    rw [next_val (List.getElem?_eq_getElem hk)]
    by_cases e : valI v k = 2
    · rw [h.wait k _ (List.getElem?_eq_getElem hk) e (by simp), e]
    · exact h.asc k _ (List.getElem?_eq_getElem hk) e
  exact LeastV.uniq ⟨h.len, hf, h.below⟩ (settled_least _ _ _)
theorem SInv.skip {gs : List GateM} {regs ins v : List Int} {k : Int} {work : List Int} (h : SInv gs regs ins v (k :: work)) (hk : valI v k ≠ 2) : SInv gs regs ins v work :=
  ⟨h.len, h.good, h.below, h.asc, fun j g hj he hn => h.wait j g hj he (fun e => by
    rcases List.mem_cons.1 e with e | e
    · rw [e] at he; exact hk he
    · exact hn e), fun j hj => h.ws j (by simp [hj])⟩
theorem SInv.none {gs : List GateM} {regs ins v : List Int} {k : Int} {work : List Int} {g : GateM} (h : SInv gs regs ins v (k :: work)) (hg : gs[k.toNat]? = some g) (hx : worthM regs ins v g = 2) : SInv gs regs ins v work :=
  ⟨h.len, h.good, h.below, h.asc, fun j g' hj he hn => by
    have h0 := (h.ws k (by simp)).1
    by_cases e : (j : Int) = k
    · have : k.toNat = j := by omega
      rw [this, hj] at hg; injection hg with hg; rw [hg]; exact hx
    · exact h.wait j g' hj he (fun x => by
        rcases List.mem_cons.1 x with x | x
        · exact e x
        · exact hn x), fun j hj => h.ws j (by simp [hj])⟩
theorem valI_set (v : List Int) (k : Int) (x : Int) (j : Nat) (h0 : 0 ≤ k) (h1 : k < v.length) : valI (v.set k.toNat x) j = if (j : Int) = k then x else valI v j := by
  unfold valI
  simp only [Int.toNat_natCast]
  rw [List.getElem?_set]
  by_cases e : (j : Int) = k
  · rw [if_pos (by omega : k.toNat = j), if_pos (by omega), if_pos e]; rfl
  · rw [if_neg (by omega : ¬ k.toNat = j), if_neg e]
theorem worth_other {regs ins v u : List Int} {g : GateM} (h : ∀ a ∈ g.args, valI v a = valI u a) : worthM regs ins v g = worthM regs ins u g := by
  unfold worthM
  have : g.args.map (valI v) = g.args.map (valI u) := List.map_congr_left h
  rw [this]
theorem SInv.settle {gs : List GateM} {regs ins v : List Int} {k : Int} {work : List Int} {g : GateM} (h : SInv gs regs ins v (k :: work)) (hr : goodL regs) (hi : goodL ins) (ok : ∀ g ∈ gs, ∀ a ∈ g.args, 0 ≤ a ∧ a < gs.length)
    (hg : gs[k.toNat]? = some g) (hv : valI v k = 2) (hx : worthM regs ins v g ≠ 2) : SInv gs regs ins (v.set k.toNat (worthM regs ins v g)) (work ++ useI (usersM gs) k) := by
  obtain ⟨h0, h1⟩ := h.ws k (by simp)
  have hs := fun j : Nat => valI_set v k (worthM regs ins v g) j h0 (by rw [h.len]; exact h1)
  have hl : v.length = (v.set k.toNat (worthM regs ins v g)).length := by simp
  have hup : leqM v (v.set k.toNat (worthM regs ins v g)) = true := leqM_of_val hl fun j _ => by
    rw [hs j]; split
    · rename_i e; left; rw [e]; exact hv
    · exact leI.refl _
  have hsame : ∀ (g' : GateM), worthM regs ins v g' ≠ 2 → worthM regs ins (v.set k.toNat (worthM regs ins v g)) g' = worthM regs ins v g' := fun g' hn => by
    rcases worth_mono (regs := regs) (ins := ins) rfl rfl hl (leqM_refl _) (leqM_refl _) hup g' with e | e
    · exact absurd e hn
    · exact e.symm
  refine ⟨by simp [h.len], fun x hx => ?_, fun u hu hf => ?_, fun j g' hj hn => ?_, fun j g' hj he hn => ?_, fun j hj => ?_⟩
  · rcases List.mem_or_eq_of_mem_set hx with e | e
    · exact h.good x e
    · rw [e]; exact worth_good hr hi h.good g
  · have hb := h.below u hu hf
    refine leqM_of_val (by simp [h.len, hu]) fun j hj => ?_
    rw [hs j]; split
    · rename_i e
      rcases worth_mono (regs := regs) (ins := ins) rfl rfl (by rw [h.len, hu]) (leqM_refl _) (leqM_refl _) hb g with e2 | e2
      · exact absurd e2 hx
      · right; rw [e2]
        have hj2 : gs[j]? = some g := by rw [← hg]; congr 1; omega
        have := next_val (regs := regs) (ins := ins) (v := u) hj2
        rw [hf] at this; exact this.symm
    · exact leqM_val (by rw [h.len, hu]) hb j
  · rw [hs j] at hn ⊢
    split
    · rename_i e
      have hj2 : gs[k.toNat]? = some g' := by rw [← hj]; congr 1; omega
      rw [hg] at hj2; injection hj2 with hj2; subst hj2
      exact hsame g hx
    · rename_i e
      rw [if_neg e] at hn
      have ha := h.asc j g' hj hn
      rw [hsame g' (by rw [ha]; exact hn), ha]
  · rw [hs j] at he
    split at he
    · exact absurd he hx
    · rename_i e
      have hn' : (j : Int) ∉ work ∧ (j : Int) ∉ useI (usersM gs) k := by
        exact ⟨fun x => hn (by simp [x]), fun x => hn (by simp [x])⟩
      have hw := h.wait j g' hj he (fun x => by
        rcases List.mem_cons.1 x with x | x
        · exact e x
        · exact hn'.1 x)
      rw [← hw]
      symm
      refine worth_other fun a ha => ?_
      have hak : a ≠ k := fun x => hn'.2 ((mem_users ok h0).2 ⟨j, g', hj, rfl, by rw [← x]; exact ha⟩)
      have ha0 := (ok g' (List.mem_of_getElem? hj) a ha).1
      have := hs a.toNat
      rw [show ((a.toNat : Nat) : Int) = a from by omega] at this
      rw [this, if_neg hak]
  · rcases List.mem_append.1 hj with e | e
    · exact h.ws j (by simp [e])
    · obtain ⟨i, g', hi', rfl, _⟩ := (mem_users ok h0).1 e
      have := (List.getElem?_eq_some_iff.1 hi').1
      omega
/-- What the gates that are not yet settled may still bring. -/
def costV : List (List Int) → List Int → Nat
  | q :: u, x :: v => (if x = 2 then q.length else 0) + costV u v
  | _, _ => 0
theorem costV_set : ∀ (u : List (List Int)) (v : List Int) (k : Nat) (q : List Int) (x : Int), u[k]? = some q → v[k]? = some 2 → x ≠ 2 → costV u (v.set k x) + q.length = costV u v
  | [], _, k, q, _, h, _, _ => by simp at h
  | y :: u, [], k, q, _, _, h, _ => by simp at h
  | y :: u, b :: v, 0, q, x, h, h2, hx => by simp at h h2; subst h; subst h2; simp [costV, hx]; omega
  | y :: u, b :: v, k + 1, q, x, h, h2, hx => by
    have := costV_set u v k q x (by simpa using h) (by simpa using h2) hx
    simp [costV]; omega
theorem costV_le : ∀ (u : List (List Int)) (v : List Int), costV u v ≤ totalU u
  | [], _ => by simp [costV]
  | q :: u, [] => by simp [costV]
  | q :: u, x :: v => by
    have := costV_le u v
    simp only [costV, totalU, List.map_cons, List.sum_cons] at *
    split <;> omega

/-! the law EvalTrue -/
theorem solves_leq {gs : List GateM} {regs ins u : List Int} (hl : u.length = gs.length) (hf : nextV gs regs ins u = u) : leqM (settledM gs regs ins) u = true := (settled_least gs regs ins).least u hl hf
theorem solves_same {gs : List GateM} {regs ins u : List Int} (hl : u.length = gs.length) (hf : nextV gs regs ins u = u) (ho : (2 : Int) ∉ settledM gs regs ins) : settledM gs regs ins = u :=
  leqM_open _ _ (by rw [settled_len, hl]) (solves_leq hl hf) ho
end Go.Proofs.Ytjagbnaacfhokaa
/- Levels, in plain Lean: the order by counts of what lacks, and the order by flags, are the same; what is told along an order is what is settled. No program in sight. -/
namespace Go.Proofs.Ytjagbnaacfhokaa
set_option linter.unusedVariables false
set_option linter.unusedSimpArgs false

/-- All of args are done. -/
def argsDone (o : List Bool) (g : GateM) : Bool := g.args.all (onI o)
/-- The first gate from k on that is ready. -/
def readyFrom : List GateM → Nat → List Bool → Int
  | [], _, _ => -1
  | g :: l, k, o => if !onI o k && argsDone o g then (k : Int) else readyFrom l (k + 1) o
def readyM (gs : List GateM) (o : List Bool) : Int := readyFrom gs 0 o
def orderFrom (gs : List GateM) : Nat → List Bool → List Int → Option (List Int)
  | 0, _, out => some out
  | n + 1, o, out => if readyM gs o < 0 then none else orderFrom gs n (o.set (readyM gs o).toNat true) (out ++ [readyM gs o])
def orderM (gs : List GateM) : Option (List Int) := orderFrom gs gs.length (List.replicate gs.length false) []

/-! counts of what lacks -/
def lacksG (o : List Bool) (g : GateM) : Int := (g.args.countP (fun a => !onI o a) : Nat)
def lackFrom : List GateM → Nat → List Bool → List Int
  | [], _, _ => []
  | g :: l, k, o => (if onI o k then -1 else lacksG o g) :: lackFrom l (k + 1) o
def lackM (gs : List GateM) (o : List Bool) : List Int := lackFrom gs 0 o
def decAll (L : List Int) (l : List Int) : List Int := l.foldl (fun L k => L.modify k.toNat (· - 1)) L
def zeroAt : List Int → Int → Int
  | [], _ => -1
  | x :: l, k => if x = 0 then k else zeroAt l (k + 1)

theorem lackFrom_len (l : List GateM) : ∀ k o, (lackFrom l k o).length = l.length := by
  induction l with
  | nil => intro k o; rfl
  | cons g l ih => intro k o; simp [lackFrom, ih]
theorem lackFrom_at (l : List GateM) (o : List Bool) : ∀ (k j : Nat) (g : GateM), l[j]? = some g → (lackFrom l k o)[j]? = some (if onI o ((k + j : Nat) : Int) then -1 else lacksG o g) := by
  induction l with
  | nil => intro k j g h; simp at h
  | cons x l ih =>
    intro k j g h
    cases j with
    | zero => simp at h; subst h; simp [lackFrom]
    | succ j => simp only [lackFrom, List.getElem?_cons_succ]; rw [ih (k + 1) j g (by simpa using h), show k + 1 + j = k + (j + 1) from by omega]
theorem lackM_at {gs : List GateM} {o : List Bool} {j : Nat} {g : GateM} (h : gs[j]? = some g) : (lackM gs o)[j]? = some (if onI o j then -1 else lacksG o g) := by
  have := lackFrom_at gs o 0 j g h; simpa [lackM] using this
theorem lacks_zero (o : List Bool) (g : GateM) : (lacksG o g = 0) = (argsDone o g = true) := by
  unfold lacksG argsDone
  rw [eq_iff_iff]
  constructor
  · intro h
    have h0 : g.args.countP (fun a => !onI o a) = 0 := by omega
    rw [List.countP_eq_zero] at h0
    rw [List.all_eq_true]
    exact fun a ha => by have := h0 a ha; simpa using this
  · intro h
    rw [List.all_eq_true] at h
    have h0 : g.args.countP (fun a => !onI o a) = 0 := by
      rw [List.countP_eq_zero]; exact fun a ha => by simp [h a ha]
    omega
theorem zeroAt_lack (l : List GateM) (o : List Bool) : ∀ k : Nat, zeroAt (lackFrom l k o) k = readyFrom l k o := by
  induction l with
  | nil => intro k; rfl
  | cons g l ih =>
    intro k
    have h1 := ih (k + 1)
    simp only [lackFrom, zeroAt, readyFrom]
    rw [show ((k : Int) + 1) = ((k + 1 : Nat) : Int) from by omega, h1]
    cases e : onI o k with
    | true => simp
    | false =>
      simp only [Bool.false_eq_true, if_false, Bool.not_false, Bool.true_and]
      have := lacks_zero o g
      by_cases h : argsDone o g = true
      · rw [if_pos (by rw [this]; exact h), if_pos h]
      · rw [if_neg (by rw [this]; exact h), if_neg h]
theorem zeroAt_lackM (gs : List GateM) (o : List Bool) : zeroAt (lackM gs o) 0 = readyM gs o := zeroAt_lack gs o 0

theorem readyFrom_spec (gs : List GateM) (o : List Bool) (l : List GateM) : ∀ k : Nat, gs.drop k = l → readyFrom l k o = -1 ∨
    ∃ (j : Nat) (g : GateM), readyFrom l k o = (j : Int) ∧ k ≤ j ∧ gs[j]? = some g ∧ onI o j = false ∧ argsDone o g = true := by
  induction l with
  | nil => intro k _; exact .inl rfl
  | cons g l ih =>
    intro k hd
    have hk : gs[k]? = some g := by
      have : (gs.drop k)[0]? = some g := by rw [hd]; rfl
      simpa using this
    have hd' : gs.drop (k + 1) = l := by rw [← List.drop_drop, hd]; rfl
    simp only [readyFrom]
    by_cases h : (!onI o k && argsDone o g) = true
    · rw [if_pos h]
      simp only [Bool.and_eq_true, Bool.not_eq_true'] at h
      exact .inr ⟨k, g, rfl, Nat.le_refl _, hk, h.1, h.2⟩
    · rw [if_neg h]
      rcases ih (k + 1) hd' with e | ⟨j, x, h1, h2, h3⟩
      · exact .inl e
      · exact .inr ⟨j, x, h1, by omega, h3⟩
theorem readyM_spec (gs : List GateM) (o : List Bool) : readyM gs o = -1 ∨ ∃ (j : Nat) (g : GateM), readyM gs o = (j : Int) ∧ gs[j]? = some g ∧ onI o j = false ∧ argsDone o g = true := by
  rcases readyFrom_spec gs o gs 0 rfl with e | ⟨j, g, h1, _, h3⟩
  · exact .inl e
  · exact .inr ⟨j, g, h1, h3⟩
/-- If a gate is ready, the first that is ready is one. -/
theorem readyFrom_some (gs : List GateM) (o : List Bool) (l : List GateM) : ∀ (k j : Nat) (g : GateM), l[j]? = some g → onI o ((k + j : Nat) : Int) = false → argsDone o g = true → 0 ≤ readyFrom l k o := by
  induction l with
  | nil => intro k j g h; simp at h
  | cons x l ih =>
    intro k j g h h1 h2
    simp only [readyFrom]
    by_cases hx : (!onI o k && argsDone o x) = true
    · rw [if_pos hx]; omega
    · rw [if_neg hx]
      cases j with
      | zero => simp at h h1; subst h; simp [h1, h2] at hx
      | succ j => exact ih (k + 1) j g (by simpa using h) (by rw [show k + 1 + j = k + (j + 1) from by omega]; exact h1) h2

theorem count_addUses (k j b : Int) (hb : 0 ≤ b) (args : List Int) : ∀ u : List (List Int), (∀ a ∈ args, 0 ≤ a ∧ a < u.length) → (useI (addUses u k args) b).count j = (useI u b).count j + if j = k then args.count b else 0 := by
  induction args with
  | nil => intro u _; simp [addUses]
  | cons a l ih =>
    intro u h
    have ha := h a (by simp)
    have h2 := ih (u.modify a.toNat (· ++ [k])) (fun x hx => by simpa using h x (by simp [hx]))
    simp only [addUses, List.foldl_cons] at h2 ⊢
    rw [h2, useI_modify u a b k ha.1 hb]
    by_cases e : a = b
    · subst e; rw [if_pos ⟨rfl, ha.2⟩, List.count_append, List.count_cons, List.count_cons]
      by_cases hj : j = k
      · subst hj; simp; omega
      · have hj' : ¬ k = j := fun x => hj x.symm
        simp [hj, hj']
    · rw [if_neg (fun x => e x.1), List.count_cons]; simp [e]
theorem count_usersFrom {gs : List GateM} (j b : Int) (hb : 0 ≤ b) (ok : okArgs gs) (l : List GateM) : ∀ (k : Nat) (u : List (List Int)), gs.drop k = l → u.length = gs.length →
    (useI (usersFrom l k u) b).count j = (useI u b).count j + if (k : Int) ≤ j then ((l[(j - k).toNat]?.map (·.args)).getD []).count b else 0 := by
  induction l with
  | nil => intro k u _ _; simp [usersFrom]
  | cons g l ih =>
    intro k u hd hu
    have hk : gs[k]? = some g := by
      have : (gs.drop k)[0]? = some g := by rw [hd]; rfl
      simpa using this
    have hd' : gs.drop (k + 1) = l := by rw [← List.drop_drop, hd]; rfl
    simp only [usersFrom]
    rw [ih (k + 1) _ hd' (by rw [addUses_len, hu]), count_addUses k j b hb g.args u (by rw [hu]; exact ok g (List.mem_of_getElem? hk))]
    by_cases e : j = k
    · subst e; rw [if_pos rfl, if_neg (by omega), if_pos (by omega)]; simp
    · rw [if_neg e]
      by_cases h : (k : Int) ≤ j
      · rw [if_pos (by omega), if_pos h, show (j - k).toNat = (j - ((k + 1 : Nat) : Int)).toNat + 1 from by omega]; simp
      · rw [if_neg (by omega), if_neg h]
theorem count_users {gs : List GateM} (ok : okArgs gs) {b : Int} (hb : 0 ≤ b) (j : Nat) : (useI (usersM gs) b).count (j : Int) = (argsI gs j).count b := by
  unfold usersM
  rw [count_usersFrom j b hb ok gs 0 _ rfl (by simp), if_pos (by omega)]
  have : useI (List.replicate gs.length ([] : List Int)) b = [] := by unfold useI; rw [List.getElem?_replicate]; split <;> rfl
  simp [this, argsI]

theorem decAll_len (l : List Int) : ∀ L, (decAll L l).length = L.length := by
  induction l with
  | nil => intro L; rfl
  | cons a l ih => intro L; simp only [decAll, List.foldl_cons] at *; rw [ih]; simp
theorem decAll_at (l : List Int) (h0 : ∀ a ∈ l, 0 ≤ a) : ∀ (L : List Int) (j : Nat) (x : Int), L[j]? = some x → (decAll L l)[j]? = some (x - (l.count (j : Int) : Nat)) := by
  induction l with
  | nil => intro L j x h; simp [decAll, h]
  | cons a l ih =>
    intro L j x h
    have ha := h0 a (by simp)
    have ih' := ih (fun y hy => h0 y (by simp [hy]))
    simp only [decAll, List.foldl_cons] at *
    by_cases e : a = j
    · subst e
      rw [ih' (L.modify (j : Int).toNat (· - 1)) j (x - 1) (by simp [h])]
      simp; omega
    · have : ¬ a.toNat = j := by omega
      rw [ih' (L.modify a.toNat (· - 1)) j x (by simp [h, this])]
      rw [List.count_cons]; simp [e]
theorem countP_set {o : List Bool} {k : Int} (h0 : 0 ≤ k) (h1 : k < o.length) (hk : onI o k = false) (l : List Int) (hl : ∀ a ∈ l, 0 ≤ a) :
    l.countP (fun a => !onI o a) = l.countP (fun a => !onI (o.set k.toNat true) a) + l.count k := by
  induction l with
  | nil => rfl
  | cons a l ih =>
    have ih := ih (fun x hx => hl x (by simp [hx]))
    have hs := onI_set o k a h0 h1 (hl a (by simp))
    rw [List.countP_cons, List.countP_cons, List.count_cons, hs, ih]
    by_cases e : a = k
    · subst e; simp [hk]; omega
    · simp [e]; omega
/-- One more is done: the counts that the loop leaves. -/
theorem lack_step {gs : List GateM} {o : List Bool} {k : Nat} {g : GateM} (ok : okArgs gs) (ho : o.length = gs.length) (hg : gs[k]? = some g) (hk : onI o k = false) (hd : argsDone o g = true)
    (hc : ∀ (j : Nat) (x : GateM), gs[j]? = some x → onI o j = true → argsDone o x = true) :
    decAll ((lackM gs o).set k (-1)) (useI (usersM gs) k) = lackM gs (o.set k true) := by
  have hkl : k < gs.length := (List.getElem?_eq_some_iff.1 hg).1
  have hu : ∀ a ∈ useI (usersM gs) (k : Int), 0 ≤ a := fun a ha => by
    obtain ⟨i, _, _, rfl, _⟩ := (mem_users ok (by omega)).1 ha; omega
  refine List.ext_getElem? fun j => ?_
  rcases Nat.lt_or_ge j gs.length with hj | hj
  · have hgj := List.getElem?_eq_getElem hj
    generalize gs[j] = x at hgj
    have hlj := lackM_at (o := o) hgj
    have hon := onI_set o k j (by omega) (by omega) (by omega)
    rw [Int.toNat_natCast] at hon
    rw [lackM_at hgj, hon]
    have hcnt : (useI (usersM gs) k).count (j : Int) = x.args.count (k : Int) := by rw [count_users ok (by omega)]; simp [argsI, hgj]
    by_cases e : j = k
    · subst e
      rw [hg] at hgj; injection hgj with hgj; subst hgj
      rw [decAll_at _ hu _ j (-1) (by rw [List.getElem?_set]; simp [lackM, lackFrom_len, hkl]), hcnt]
      have : g.args.count (j : Int) = 0 := by
        rw [List.count_eq_zero]; intro hm
        unfold argsDone at hd; rw [List.all_eq_true] at hd
        rw [hd _ hm] at hk; cases hk
      rw [this]; simp
    · have e' : ¬ (j : Int) = (k : Int) := by omega
      rw [decAll_at _ hu _ j _ (by rw [List.getElem?_set, if_neg (fun x => e x.symm), hlj]), hcnt]
      simp only [e', decide_false, Bool.or_false]
      cases hoj : onI o j with
      | true =>
        have := hc j x hgj hoj
        have h0 : x.args.count (k : Int) = 0 := by
          rw [List.count_eq_zero]; intro hm
          unfold argsDone at this; rw [List.all_eq_true] at this
          rw [this _ hm] at hk; cases hk
        simp [h0]
      | false =>
        simp only [Bool.false_eq_true, if_false]
        have := countP_set (o := o) (k := (k : Int)) (by omega) (by omega) hk x.args (fun a ha => (ok x (List.mem_of_getElem? hgj) a ha).1)
        rw [Int.toNat_natCast] at this
        unfold lacksG; congr 1; omega
  · rw [List.getElem?_eq_none (by rw [decAll_len]; simp [lackM, lackFrom_len]; omega), List.getElem?_eq_none (by simp [lackM, lackFrom_len]; omega)]

/-! along an order -/
/-- What is done is done with its args. -/
def ClosedD (gs : List GateM) (o : List Bool) : Prop := ∀ (j : Nat) (x : GateM), gs[j]? = some x → onI o j = true → argsDone o x = true
/-- An order of what is left. -/
def OrdM (gs : List GateM) : List Bool → List Int → Prop
  | _, [] => True
  | o, k :: l => 0 ≤ k ∧ (∃ g, gs[k.toNat]? = some g ∧ onI o k = false ∧ argsDone o g = true) ∧ OrdM gs (o.set k.toNat true) l
theorem argsDone_set {o : List Bool} {k : Nat} {x : GateM} (h : argsDone o x = true) : argsDone (o.set k true) x = true := by
  unfold argsDone at *; rw [List.all_eq_true] at *
  exact fun a ha => subB_at _ (subB_set o k) (h a ha)
theorem closed_step {gs : List GateM} {o : List Bool} {k : Nat} {g : GateM} (hc : ClosedD gs o) (ho : o.length = gs.length) (hg : gs[k]? = some g) (hd : argsDone o g = true) : ClosedD gs (o.set k true) := by
  intro j x hj hon
  by_cases e : j = k
  · subst e; rw [hg] at hj; injection hj with hj; subst hj; exact argsDone_set hd
  · refine argsDone_set (hc j x hj ?_)
    have := onI_set o k j (by omega) (by have := (List.getElem?_eq_some_iff.1 hg).1; omega) (by omega)
    rw [Int.toNat_natCast] at this
    rw [this] at hon
    have e' : ¬ (j : Int) = (k : Int) := by omega
    simpa [e'] using hon
theorem closed_none (gs : List GateM) (n : Nat) : ClosedD gs (List.replicate n false) := fun j x _ h => by rw [onI_none] at h; cases h
theorem orderFrom_ord (gs : List GateM) (n : Nat) : ∀ (o : List Bool) (out l : List Int), orderFrom gs n o out = some l → ∃ r, l = out ++ r ∧ r.length = n ∧ OrdM gs o r := by
  induction n with
  | zero => intro o out l h; simp [orderFrom] at h; exact ⟨[], by simp [h], rfl, trivial⟩
  | succ n ih =>
    intro o out l h
    simp only [orderFrom] at h
    split at h
    · cases h
    · rename_i hr
      obtain ⟨r, h1, h2, h3⟩ := ih _ _ _ h
      rcases readyM_spec gs o with e | ⟨j, g, e1, e2, e3, e4⟩
      · omega
      · refine ⟨readyM gs o :: r, by simp [h1], by simp [h2], by omega, ⟨g, ?_, ?_, e4⟩, h3⟩
        · rw [e1]; simpa using e2
        · rw [e1]; exact e3
theorem orderM_ord {gs : List GateM} {l : List Int} (h : orderM gs = some l) : l.length = gs.length ∧ OrdM gs (List.replicate gs.length false) l := by
  obtain ⟨r, h1, h2, h3⟩ := orderFrom_ord _ _ _ _ _ h
  simp at h1; subst h1; exact ⟨h2, h3⟩
theorem cnt_set {o : List Bool} : ∀ {k : Nat}, o[k]? = some false → cnt (o.set k true) = cnt o + 1 := by
  induction o with
  | nil => intro k h; simp at h
  | cons x o ih =>
    intro k h
    cases k with
    | zero => simp at h; subst h; simp [cnt]
    | succ k => have := ih (k := k) (by simpa using h); simp only [cnt, List.set_cons_succ, List.countP_cons] at *; omega
theorem off_some {o : List Bool} {k : Int} (h : onI o k = false) (hl : k.toNat < o.length) : o[k.toNat]? = some false := by
  unfold onI at h; rw [List.getElem?_eq_getElem hl] at h ⊢; simpa using h
/-- Where an order ends, all are done. -/
theorem OrdM.all {gs : List GateM} : ∀ {l : List Int} {o : List Bool}, OrdM gs o l → o.length = gs.length → ∃ o' : List Bool, o' = l.foldl (fun o k => o.set k.toNat true) o ∧ o'.length = gs.length ∧ cnt o' = cnt o + l.length
  | [], o, _, ho => ⟨o, rfl, ho, rfl⟩
  | k :: l, o, h, ho => by
    obtain ⟨h0, ⟨g, hg, hon, _⟩, h3⟩ := h
    have hk : k.toNat < o.length := by have := (List.getElem?_eq_some_iff.1 hg).1; omega
    obtain ⟨o', h1, h2, h4⟩ := OrdM.all h3 (by simp [ho])
    exact ⟨o', by simpa using h1, h2, by rw [h4, cnt_set (off_some hon hk)]; simp; omega⟩
theorem all_on {o : List Bool} (h : cnt o = o.length) (k : Nat) (hk : k < o.length) : onI o k = true := by
  have := List.countP_eq_length.1 h o[k] (List.getElem_mem hk)
  simpa [onI, List.getElem?_eq_getElem hk] using this

/-! what is told along an order -/
def alongM (gs : List GateM) (regs ins : List Int) : List Int → List Int → List Int
  | [], v => v
  | k :: l, v => alongM gs regs ins l (v.set k.toNat (worthM regs ins v ((gs[k.toNat]?).getD ⟨0, 0, []⟩)))
theorem along_len (gs : List GateM) (regs ins : List Int) : ∀ (l v : List Int), (alongM gs regs ins l v).length = v.length
  | [], v => rfl
  | k :: l, v => by simp only [alongM]; rw [along_len gs regs ins l]; simp
theorem along_solves {gs : List GateM} {regs ins : List Int} (ok : okArgs gs) : ∀ (l : List Int) (o : List Bool) (v : List Int), OrdM gs o l → o.length = gs.length → v.length = gs.length → ClosedD gs o →
    (∀ (j : Nat) (x : GateM), gs[j]? = some x → onI o j = true → worthM regs ins v x = valI v j) →
    ∀ (j : Nat) (x : GateM), gs[j]? = some x → onI (l.foldl (fun o k => o.set k.toNat true) o) j = true → worthM regs ins (alongM gs regs ins l v) x = valI (alongM gs regs ins l v) j
  | [], _, _, _, _, _, _, h => h
  | k :: l, o, v, hO, ho, hv, hc, h => by
    obtain ⟨h0, ⟨g, hg, hon, hd⟩, h3⟩ := hO
    have hkl := (List.getElem?_eq_some_iff.1 hg).1
    have hk1 : k < gs.length := by omega
    refine along_solves ok l _ _ h3 (by simp [ho]) (by simp [hv]) (closed_step hc ho hg hd) (fun j x hj hoj => ?_)
    rw [hg, Option.getD_some]
    have hs := fun i : Nat => valI_set v k (worthM regs ins v g) i h0 (by omega)
    have hon' := onI_set o k j h0 (by omega) (by omega)
    rw [hon'] at hoj
    have hsame : ∀ y : GateM, y ∈ gs → argsDone o y = true → worthM regs ins (v.set k.toNat (worthM regs ins v g)) y = worthM regs ins v y := fun y hy hdy => by
      refine worth_other fun a ha => ?_
      have ha0 := (ok y hy a ha).1
      have := hs a.toNat
      rw [show ((a.toNat : Nat) : Int) = a from by omega] at this
      rw [this, if_neg]
      intro e
      unfold argsDone at hdy; rw [List.all_eq_true] at hdy
      have := hdy a ha; rw [e, hon] at this; cases this
    rw [hs j]
    by_cases e : (j : Int) = k
    · have : j = k.toNat := by omega
      subst this
      rw [hg] at hj; injection hj with hj; subst hj
      rw [if_pos e, hsame g (List.mem_of_getElem? hg) hd]
    · rw [if_neg e]
      have hoj' : onI o j = true := by simpa [e] using hoj
      rw [hsame x (List.mem_of_getElem? hj) (hc j x hj hoj'), h j x hj hoj']
/-- What is told along an order solves. -/
theorem along_fix {gs : List GateM} {regs ins l v : List Int} (ok : okArgs gs) (h : orderM gs = some l) (hv : v.length = gs.length) : nextV gs regs ins (alongM gs regs ins l v) = alongM gs regs ins l v := by
  obtain ⟨hl, hO⟩ := orderM_ord h
  obtain ⟨o', h1, h2, h3⟩ := OrdM.all hO (by simp)
  have hz : cnt (List.replicate gs.length false) = 0 := by simp [cnt]
  refine val_ext (by rw [next_len, along_len, hv]) fun j hj => ?_
  rw [next_len] at hj
  rw [next_val (List.getElem?_eq_getElem hj)]
  refine along_solves ok l _ v hO (by simp) hv (closed_none _ _) (fun j x _ h => by rw [onI_none] at h; cases h) j _ (List.getElem?_eq_getElem hj) ?_
  rw [← h1]
  exact all_on (by omega) j (by omega)
/-- Where there is an order, nothing else solves. -/
theorem order_agree {gs : List GateM} {regs ins u v : List Int} (ok : okArgs gs) (hu : u.length = gs.length) (hv : v.length = gs.length) (fu : nextV gs regs ins u = u) (fv : nextV gs regs ins v = v) : ∀ (l : List Int) (o : List Bool), OrdM gs o l → o.length = gs.length →
    (∀ j : Nat, j < gs.length → onI o j = true → valI u j = valI v j) → ∀ j : Nat, j < gs.length → onI (l.foldl (fun o k => o.set k.toNat true) o) j = true → valI u j = valI v j
  | [], _, _, _, h => h
  | k :: l, o, hO, ho, h => by
    obtain ⟨h0, ⟨g, hg, hon, hd⟩, h3⟩ := hO
    have hkl := (List.getElem?_eq_some_iff.1 hg).1
    refine order_agree ok hu hv fu fv l _ h3 (by simp [ho]) (fun j hj hoj => ?_)
    have hon' := onI_set o k j h0 (by omega) (by omega)
    rw [hon'] at hoj
    by_cases e : (j : Int) = k
    · have : j = k.toNat := by omega
      subst this
      have e1 := next_val (regs := regs) (ins := ins) (v := u) hg
      have e2 := next_val (regs := regs) (ins := ins) (v := v) hg
      rw [fu] at e1; rw [fv] at e2
      rw [e1, e2]
      refine worth_other fun a ha => ?_
      have ha0 := ok g (List.mem_of_getElem? hg) a ha
      unfold argsDone at hd; rw [List.all_eq_true] at hd
      have h4 := h a.toNat (by omega)
      rw [show ((a.toNat : Nat) : Int) = a from by omega] at h4
      exact h4 (hd a ha)
    · exact h j hj (by simpa [e] using hoj)
theorem order_one {gs : List GateM} {regs ins u v l : List Int} (ok : okArgs gs) (h : orderM gs = some l) (hu : u.length = gs.length) (hv : v.length = gs.length) (fu : nextV gs regs ins u = u) (fv : nextV gs regs ins v = v) : u = v := by
  obtain ⟨hl, hO⟩ := orderM_ord h
  obtain ⟨o', h1, h2, h3⟩ := OrdM.all hO (by simp)
  have hz : cnt (List.replicate gs.length false) = 0 := by simp [cnt]
  refine val_ext (by rw [hu, hv]) fun j hj => ?_
  refine order_agree ok hu hv fu fv l _ hO (by simp) (fun j _ h => by rw [onI_none] at h; cases h) j (by omega) ?_
  rw [← h1]
  exact all_on (by omega) j (by omega)
theorem along_settled {gs : List GateM} {regs ins l v : List Int} (ok : okArgs gs) (h : orderM gs = some l) (hv : v.length = gs.length) : alongM gs regs ins l v = settledM gs regs ins :=
  order_one ok h (by rw [along_len, hv]) (settled_len _ _ _) (along_fix ok h hv) (settled_least _ _ _).fix
theorem notM_shut {x : Int} (h : x = 0 ∨ x = 1) : notM x ≠ 2 := by rcases h with rfl | rfl <;> decide
theorem val_shut {l : List Int} (h : (2 : Int) ∉ l) (k : Int) : valI l k ≠ 2 := by
  unfold valI
  cases e : l[k.toNat]? with
  | none => simp
  | some x => intro e2; simp at e2; subst e2; exact h (List.mem_of_getElem? e)
theorem worth_shut {regs ins v : List Int} {g : GateM} (hr : (2 : Int) ∉ regs) (hi : (2 : Int) ∉ ins) (hv : ∀ a ∈ g.args, valI v a = 0 ∨ valI v a = 1) : worthM regs ins v g ≠ 2 := by
  unfold worthM
  split
  · decide
  split
  · decide
  split
  · exact val_shut hi _
  split
  · exact val_shut hr _
  have hm : (2 : Int) ∉ g.args.map (valI v) := fun hm => by
    obtain ⟨a, ha, e⟩ := List.mem_map.1 hm
    rcases hv a ha with h | h <;> omega
  unfold ofM
  split
  · rw [gatherM_eq 0 (by decide), if_neg hm]; split <;> decide
  split
  · rw [gatherM_eq 1 (by decide), if_neg hm]; split <;> decide
  · cases hg : g.args with
    | nil => exact notM_shut (.inl rfl)
    | cons a l => exact notM_shut (hv a (by rw [hg]; simp))
theorem order_shut_on {gs : List GateM} {regs ins v : List Int} (ok : okArgs gs) (gr : goodL regs) (gi : goodL ins) (gv : goodL v) (hr : (2 : Int) ∉ regs) (hi : (2 : Int) ∉ ins) (fv : nextV gs regs ins v = v) : ∀ (l : List Int) (o : List Bool), OrdM gs o l → o.length = gs.length →
    (∀ j : Nat, j < gs.length → onI o j = true → valI v j ≠ 2) → ∀ j : Nat, j < gs.length → onI (l.foldl (fun o k => o.set k.toNat true) o) j = true → valI v j ≠ 2
  | [], _, _, _, h => h
  | k :: l, o, hO, ho, h => by
    obtain ⟨h0, ⟨g, hg, hon, hd⟩, h3⟩ := hO
    have hkl := (List.getElem?_eq_some_iff.1 hg).1
    refine order_shut_on ok gr gi gv hr hi fv l _ h3 (by simp [ho]) (fun j hj hoj => ?_)
    rw [onI_set o k j h0 (by omega) (by omega)] at hoj
    by_cases e : (j : Int) = k
    · have : j = k.toNat := by omega
      subst this
      have e1 := next_val (regs := regs) (ins := ins) (v := v) hg
      rw [fv] at e1
      rw [e1]
      refine worth_shut hr hi fun a ha => ?_
      have ha0 := ok g (List.mem_of_getElem? hg) a ha
      unfold argsDone at hd; rw [List.all_eq_true] at hd
      have h4 := h a.toNat (by omega)
      rw [show ((a.toNat : Nat) : Int) = a from by omega] at h4
      have h5 := h4 (hd a ha)
      rcases valI_good gv a with h6 | h6 | h6
      · exact .inl h6
      · exact .inr h6
      · exact absurd h6 h5
    · exact h j hj (by simpa [e] using hoj)
/-- Where there is an order, nothing is open if nothing that is handed in is. -/
theorem order_shut {gs : List GateM} {regs ins l : List Int} (ok : okArgs gs) (h : orderM gs = some l) (gr : goodL regs) (gi : goodL ins) (hr : (2 : Int) ∉ regs) (hi : (2 : Int) ∉ ins) : (2 : Int) ∉ settledM gs regs ins := by
  obtain ⟨hl, hO⟩ := orderM_ord h
  obtain ⟨o', h1, h2, h3⟩ := OrdM.all hO (by simp)
  have hz : cnt (List.replicate gs.length false) = 0 := by simp [cnt]
  intro hm
  obtain ⟨j, hj⟩ := List.mem_iff_getElem?.1 hm
  have hjl := (List.getElem?_eq_some_iff.1 hj).1
  rw [settled_len] at hjl
  refine order_shut_on ok gr gi (settled_good gr gi) hr hi (settled_least _ _ _).fix l _ hO (by simp) (fun j _ h => by rw [onI_none] at h; cases h) j hjl ?_ (by simp [valI, hj])
  rw [← h1]
  exact all_on (by omega) j (by omega)
/-- Where each gate's args stand ahead of it, there is an order. -/
theorem order_of_ahead {gs : List GateM} (h : ∀ (k : Nat) (g : GateM), gs[k]? = some g → ∀ a ∈ g.args, 0 ≤ a ∧ a < k) : ∀ (n : Nat) (o : List Bool) (out : List Int), o.length = gs.length → cnt o + n = gs.length → ∃ l, orderFrom gs n o out = some l
  | 0, o, out, _, _ => ⟨out, rfl⟩
  | n + 1, o, out, ho, hc => by
    have hex : ∃ j : Nat, j < gs.length ∧ onI o j = false ∧ ∀ i : Nat, i < j → onI o i = true := by
      have : ∀ m : Nat, m ≤ gs.length → (∀ i : Nat, i < m → onI o i = true) ∨ ∃ j : Nat, j < gs.length ∧ onI o j = false ∧ ∀ i : Nat, i < j → onI o i = true := by
        intro m
        induction m with
        | zero => exact fun _ => .inl fun i hi => by omega
        | succ m ih =>
          intro hm
          rcases ih (by omega) with e | e
          · cases hb : onI o m with
            | false => exact .inr ⟨m, by omega, hb, e⟩
            | true =>
              refine .inl fun i hi => ?_
              rcases Nat.lt_or_ge i m with h1 | h1
              · exact e i h1
              · have : i = m := by omega
                subst this; exact hb
          · exact .inr e
      rcases this gs.length (Nat.le_refl _) with e | e
      · have : cnt o = o.length := List.countP_eq_length.2 fun b hb => by
          obtain ⟨i, hi⟩ := List.mem_iff_getElem?.1 hb
          have hil := (List.getElem?_eq_some_iff.1 hi).1
          have := e i (by omega)
          simpa [onI, hi] using this
        omega
      · exact e
    obtain ⟨j, hj, hoff, hlow⟩ := hex
    have hg := List.getElem?_eq_getElem hj
    have hr : 0 ≤ readyM gs o := readyFrom_some gs o gs 0 j _ hg (by simpa using hoff) (by
      unfold argsDone; rw [List.all_eq_true]; intro a ha
      have := h j _ hg a ha
      have h2 := hlow a.toNat (by omega)
      rwa [show ((a.toNat : Nat) : Int) = a from by omega] at h2)
    simp only [orderFrom]
    rw [if_neg (by omega)]
    refine order_of_ahead h n _ _ (by simp [ho]) ?_
    rcases readyM_spec gs o with e | ⟨i, g, e1, e2, e3, e4⟩
    · omega
    · have hil := (List.getElem?_eq_some_iff.1 e2).1
      rw [e1, Int.toNat_natCast, cnt_set (by have := off_some e3 (by simpa [ho] using hil); simpa using this)]
      omega
end Go.Proofs.Ytjagbnaacfhokaa
