/- Words on memory that all walks of this seat share: a slice that reads as a list, worlds that keep what was there. No program in sight. -/
import Derived.WalkKit
import Derived.WalkLawsBesides
import Derived.WalkSpells
import Derived.Deep.QuietTactic
import Derived.BigQuiet
import Derived.Lib.Hide
import Derived.Deep.LoopGhost
import Derived.Deep.Draws
import Derived.Laws.OwnMore
import Derived.Deep.AppendLies
import Derived.Laws.Rows
namespace Go.Proofs.Ytjagbnaacfhokaa
set_option linter.unusedVariables false
set_option linter.unusedSimpArgs false
open Go.RowKit

abbrev I (n : Int) : Value := .int .i64 n

/-- What is a cell stays the same cell. -/
def Keeps (w w' : World) : Prop := ∀ p u, w.cell? p = some u → w'.cell? p = some u

theorem Keeps.refl (w : World) : Keeps w w := fun _ _ h => h
theorem Keeps.trans {a b c : World} (h : Keeps a b) (k : Keeps b c) : Keeps a c := fun p u e => k p u (h p u e)

theorem lt_of_cell {w : World} {p : Addr} {u : Value} (h : w.cell? p = some u) : p.block < w.heap.size := by
  unfold World.cell? at h
  rcases Nat.lt_or_ge p.block w.heap.size with hl | hl
  · exact hl
  · rw [Array.getElem?_eq_none hl] at h; cases h

theorem Keeps.of_below {w w' : World} (h : Below w.heap.size w w') : Keeps w w' := fun p u e => (h.cell (lt_of_cell e)).trans e
theorem Keeps.drewN (w : World) (n : Nat) : Keeps w (w.drewN n) := fun _ _ h => h
theorem Keeps.drew (w : World) : Keeps w w.drew := fun _ _ h => h
theorem Keeps.alloc (w : World) (o : Obj) : Keeps w (w.alloc o) := fun p u e => (World.cell?_alloc_lt w o p (lt_of_cell e)).trans e

theorem below_drewN' {B : Nat} {a w : World} (h : Below B a w) (n : Nat) : Below B a (w.drewN n) := ⟨h.os, h.tape, h.output, h.size, h.block⟩
theorem below_of_drewN (w : World) (n : Nat) : Below w.heap.size w (w.drewN n) := below_drewN' (Below.refl _ _) n

/-- All that was there is as it was; new memory may have come. -/
def Ext (w w' : World) : Prop := Below w.heap.size w w'
section
variable {a b c : World}
theorem Ext.refl (w : World) : Ext w w := Below.refl _ _
theorem Ext.size (h : Ext a b) : a.heap.size ≤ b.heap.size := Below.size h
theorem Ext.trans (h : Ext a b) (k : Ext b c) : Ext a c := Below.trans h (Below.mono k (Below.size h))
theorem Ext.alloc (h : Ext a b) (o : Obj) : Ext a (b.alloc o) := Below.alloc h (Below.size h) o
theorem Ext.drewN (h : Ext a b) (n : Nat) : Ext a (b.drewN n) := below_drewN' h n
theorem Ext.drew (h : Ext a b) : Ext a b.drew := below_drewN' h 1
theorem Ext.setCell (h : Ext a b) {p : Addr} (hp : a.heap.size ≤ p.block) (v : Value) : Ext a (b.setCell p v) := Below.setCell h hp v
theorem Ext.keeps (h : Ext a b) : Keeps a b := Keeps.of_below h
end

/-- A slice's head, n places of one cell each, that reads cs. -/
def Sl (w : World) (A : Option Addr) (n : Nat) (cs : List Value) : Prop :=
  cs.length = n ∧ ∀ k u, cs[k]? = some u → ∃ b off, A = some ⟨b, off, none⟩ ∧ w.cell? ⟨b, off + k, none⟩ = some u

section
variable {w w' : World} {A : Option Addr} {n : Nat} {cs : List Value}
theorem Sl.keep (h : Sl w A n cs) (hk : Keeps w w') : Sl w' A n cs :=
  ⟨h.1, fun k u hu => let ⟨b, o, e, hc⟩ := h.2 k u hu; ⟨b, o, e, hk _ _ hc⟩⟩
theorem Sl.nil (w : World) (A : Option Addr) : Sl w A 0 [] := ⟨rfl, fun k u h => by simp at h⟩
theorem Sl.len {α : Type} {f : α → Value} {xs : List α} (h : Sl w A n (xs.map f)) : xs.length = n := by simpa using h.1
theorem Sl.at_ {α : Type} {f : α → Value} {xs : List α} (h : Sl w A n (xs.map f)) {k : Nat} (hk : k < n) :
    ∃ b off x, A = some ⟨b, off, none⟩ ∧ w.cell? ⟨b, off + k, none⟩ = some (f x) ∧ xs[k]? = some x := by
  have hl : k < xs.length := by have := h.len; omega
  obtain ⟨b, off, e, hc⟩ := h.2 k (f xs[k]) (by simp [List.getElem?_eq_getElem hl])
  exact ⟨b, off, xs[k], e, hc, List.getElem?_eq_getElem hl⟩
theorem Sl.next {α : Type} {f : α → Value} {xs : List α} (h : Sl w A n (xs.map f)) {k : Nat} (hk : k < n) :
    ∃ b off x, A = some ⟨b, off, none⟩ ∧ w.cell? ⟨b, off + k, none⟩ = some (f x) ∧ xs.drop k = x :: xs.drop (k + 1) := by
  have hl : k < xs.length := by have := h.len; omega
  obtain ⟨b, off, e, hc⟩ := h.2 k (f xs[k]) (by simp [List.getElem?_eq_getElem hl])
  exact ⟨b, off, xs[k], e, hc, List.drop_eq_getElem_cons hl⟩
theorem Sl.drop_end {α : Type} {f : α → Value} {xs : List α} (h : Sl w A n (xs.map f)) {k : Nat} (hk : ¬ k < n) : xs.drop k = [] := by
  have := h.len; exact List.drop_eq_nil_of_le (by omega)
end

theorem add_plain' (b o k : Nat) : (⟨b, o, none⟩ : Addr).add k = ⟨b, o + k, none⟩ := by unfold Addr.add; split <;> simp_all
theorem spot_none {w : World} {a : Addr} {k : Nat} {u : Value} (h : w.cell? (a.add k) = some u) (hk : k = 0) : a.spot = none := by
  subst hk
  obtain ⟨b, o, s⟩ := a
  cases s with
  | none => rfl
  | some x => simp [Addr.add, World.cell?] at h; split at h <;> simp at h
theorem sl_of_row {w : World} {x : Addr} {len cap : Nat} {zs : List Int} (hl : len ≤ cap) (hz : zs.length = cap)
    (hc : ∀ i, i < zs.length → w.cell? (x.add i) = some (.int .i64 (zs.getD i 0))) : Sl w (some x) len ((zs.take len).map I) := by
  refine ⟨by simp; omega, fun k u hu => ?_⟩
  rw [List.getElem?_map, List.getElem?_take] at hu
  split at hu
  · rename_i hk
    have hs : x.spot = none := spot_none (hc 0 (by omega)) rfl
    obtain ⟨b, o, s⟩ := x
    subst hs
    refine ⟨b, o, rfl, ?_⟩
    have h := hc k (by omega)
    rw [add_plain'] at h
    rw [h, List.getD_eq_getElem?_getD]
    rw [List.getElem?_eq_getElem (by omega)] at hu ⊢
    simpa using hu
  · simp at hu

theorem add_zero (b k : Nat) : (⟨b, 0, none⟩ : Addr).add k = ⟨b, k, none⟩ := by unfold Addr.add; split <;> simp_all
theorem Sl.new (w : World) (cs : List Value) (T : TypeId) : Sl (w.alloc (.cells cs.toArray T)) (some ⟨w.heap.size, 0, none⟩) cs.length cs :=
  ⟨rfl, fun k u hu => ⟨_, _, rfl, by rw [World.cell?_alloc_new]; simpa using hu⟩⟩

theorem Sl.newAt (w : World) (b : Nat) (cs : List Value) (T : TypeId) (hb : b = w.heap.size) : Sl (w.alloc (.cells cs.toArray T)) (some ⟨b, 0, none⟩) cs.length cs := by
  subst hb; exact Sl.new w cs T

/-! rows that the call itself made -/
theorem own_ext {w w' : World} {base : Nat} {e : TypeId} {size n : Nat} {v : Value} {xs : List Value} (h : w.ownsRow base e size v n xs) (hx : Ext w w') : w'.ownsRow base e size v n xs := by
  rcases h with ⟨hl, ⟨rfl, rfl⟩ | ⟨g, cap, cur, rfl, hg, hh, r⟩⟩
  · exact ⟨hl, .inl ⟨rfl, rfl⟩⟩
  · refine ⟨hl, .inr ⟨g, cap, cur, rfl, hg, ?_, r⟩⟩
    have hlt : g < w.heap.size := by
      rcases Nat.lt_or_ge g w.heap.size with h | h
      · exact h
      · rw [Array.getElem?_eq_none h] at hh; cases hh
    exact (hx.block g hlt).trans hh
theorem own_base {w : World} {base base' : Nat} {e : TypeId} {size n : Nat} {v : Value} {xs : List Value} (h : w.ownsRow base e size v n xs) (hb : base' ≤ base) : w.ownsRow base' e size v n xs := by
  rcases h with ⟨hl, h | ⟨g, cap, cur, hv, hg, r⟩⟩
  · exact ⟨hl, .inl h⟩
  · exact ⟨hl, .inr ⟨g, cap, cur, hv, by omega, r⟩⟩
theorem own_slice {w : World} {base : Nat} {e : TypeId} {size n : Nat} {v : Value} {xs : List Value} (h : w.ownsRow base e size v n xs) :
    ∃ A c, v = .slice A n c ∧ n ≤ c ∧ c ≤ maxLen ∧ ∀ k u, xs[k]? = some u → ∃ b off, A = some ⟨b, off, none⟩ ∧ w.cell? ⟨b, off + k, none⟩ = some u := by
  have h' := h
  rcases h with ⟨hl, ⟨rfl, rfl⟩ | ⟨g, cap, cur, rfl, hg, hh, hnc, hm, r⟩⟩
  · refine ⟨none, 0, rfl, Nat.le_refl _, Nat.zero_le _, fun k u hu => ?_⟩
    have : xs = [] := List.eq_nil_of_length_eq_zero (by simpa using hl)
    subst this; simp at hu
  · exact ⟨_, _, rfl, hnc, hm, fun k u hu => ⟨_, _, rfl, by have := h'.cells rfl k u hu; rwa [add_plain'] at this⟩⟩
theorem own_sl {w : World} {base : Nat} {e : TypeId} {n : Nat} {v : Value} {xs : List Value} (h : w.ownsRow base e 1 v n xs) : ∃ A c, v = .slice A n c ∧ n ≤ c ∧ c ≤ maxLen ∧ Sl w A n xs := by
  obtain ⟨A, c, hv, h1, h2, hc⟩ := own_slice h
  exact ⟨A, c, hv, h1, h2, by have := h.1; omega, hc⟩

/-- append of one element onto a row of the call's own, behind the store of the element into its new block. -/
theorem wpList_push {P : Program} {ops : Array Oper} {rest : List Oper} {o : Oper} {a : Act} {Q : Exit → Act → World → Prop} {w : World} (hgd : o.guard = none) (s x : Operand) (t e : TypeId)
    (ho : o.op = .call { callee := .builtin .append, args := #[s, x], argTypes := #[t, t] })
    {z : Value} {size bytes : Nat} (tab : (P.info? e).map (fun i => (i.zero, i.size, i.bytes)) = some (some z, size, bytes)) (ht : P.underlying t = some (.slice e)) (hzs : z.cells.size = size) (hsz : 0 < size)
    (W0 w0 : World) (hext : Ext W0 w0) (v : Value) (n : Nat) (xs : List Value) (hs : a.eval s = v) (hown : w0.ownsRow W0.heap.size e size v n xs)
    (news : List Value) (hl : news.length = size) (hw : w = w0.alloc (.cells news.toArray e)) (hx : a.eval x = .slice (some ⟨w0.heap.size, 0, none⟩) 1 1) (h1 : ∀ u ∈ news, u.oneCell' = true)
    (h63 : n + 1 ≤ maxLen) (hbytes : (n + 1) * bytes ≤ 140737488355328)
    (h : ∀ v' w', w'.ownsRow W0.heap.size e size v' (n + 1) (xs ++ news) → Ext W0 w' → w0.grownBy w' v.ownBlock → wpList P ops Q rest (a.put o.dst v') w') : wpList P ops Q (o :: rest) a w := by
  subst hw
  obtain ⟨i, hi, hz, hs1, hs2⟩ := info_parts tab
  refine wpList_append_own _ hgd s x t ho W0.heap.size e i z size bytes ht hi hz hs1 hs2 hzs hsz v n xs hs (hown.alloc _) ⟨w0.heap.size, 0, none⟩ 1 1 news hx (by omega) (fun j u hu => ?_) h1 h63 hbytes (Nat.le_trans hext.size (by simp)) ?_
  · rw [add_zero, World.cell?_alloc_new]; simpa using hu
  · intro v' w' hown' hg _
    refine h v' w' hown' (Below.grown (hext.alloc _) hg (Nat.le_trans hext.size (by simp)) (fun k hk => (hown.lt k hk).1)) ?_
    exact ⟨hg.os, hg.tape, hg.output, Nat.le_trans (by simp) hg.size, fun k hk hne => (hg.block k (by simp; omega) hne).trans (Below.heap_alloc w0 _ k hk)⟩

theorem ret_int {k : IntKind} {a b : Int} (h : a = b) : Ending.returned (.int k a) = .returned (.int k b) := by rw [h]
theorem ret_bool {a b : Bool} (h : a = b) : Ending.returned (.bool a) = .returned (.bool b) := by rw [h]
/-- A pair that a call hands back. -/
abbrev Pr (a b : Value) : Value := .tuple #[a, b]
theorem ret_pair {a b c d : Value} (h : a = c) (k : b = d) : Ending.returned (Pr a b) = .returned (Pr c d) := by rw [h, k]

/-- A slice of structs of two cells (or any pair of cells): the reading of place k is f of the k-th element. -/
def Sl2 {α : Type} (f g : α → Value) (w : World) (A : Option Addr) (n : Nat) (xs : List α) : Prop :=
  xs.length = n ∧ ∀ k x, xs[k]? = some x → ∃ b off, A = some ⟨b, off, none⟩ ∧ w.cell? ⟨b, off + k * 2, none⟩ = some (f x) ∧ w.cell? ⟨b, off + k * 2 + 1, none⟩ = some (g x)
section
variable {α : Type} {f g : α → Value} {w w' : World} {A : Option Addr} {n : Nat} {xs : List α}
theorem Sl2.keep (h : Sl2 f g w A n xs) (hk : Keeps w w') : Sl2 f g w' A n xs :=
  ⟨h.1, fun k u hu => let ⟨b, o, e, hc, hd⟩ := h.2 k u hu; ⟨b, o, e, hk _ _ hc, hk _ _ hd⟩⟩
theorem Sl2.nil (f g : α → Value) (w : World) (A : Option Addr) : Sl2 f g w A 0 [] := ⟨rfl, fun k u h => by simp at h⟩
theorem Sl2.next (h : Sl2 f g w A n xs) {k : Nat} (hk : k < n) :
    ∃ b off x, A = some ⟨b, off, none⟩ ∧ w.cell? ⟨b, off + k * 2, none⟩ = some (f x) ∧ w.cell? ⟨b, off + k * 2 + 1, none⟩ = some (g x) ∧ xs.drop k = x :: xs.drop (k + 1) ∧ xs[k]? = some x := by
  have hl : k < xs.length := by have := h.1; omega
  obtain ⟨b, off, e, hc, hd⟩ := h.2 k xs[k] (List.getElem?_eq_getElem hl)
  exact ⟨b, off, xs[k], e, hc, hd, List.drop_eq_getElem_cons hl, List.getElem?_eq_getElem hl⟩
theorem Sl2.drop_end (h : Sl2 f g w A n xs) {k : Nat} (hk : ¬ k < n) : xs.drop k = [] := by
  have := h.1; exact List.drop_eq_nil_of_le (by omega)
end

abbrev Bv (b : Bool) : Value := .bool b
abbrev Pr3 (a b c : Value) : Value := .tuple #[a, b, c]
abbrev Pr4 (a b c d : Value) : Value := .tuple #[a, b, c, d]
theorem results_tmp4 {fn : Func} {t u v x : Tmp} (h : fn.results = #[.tmp t, .tmp u, .tmp v, .tmp x]) (tmps : Array Value) (P : Program) (w : World) :
    (results fn tmps).run P w = .ok (.tuple #[tmps.getD t undef, tmps.getD u undef, tmps.getD v undef, tmps.getD x undef]) w := by simp [results, h]

/-- The new row of a make: n times z. -/
def zeros (z : Value) (n : Nat) : Array Value := madeCells #[z] n
theorem run_make1 {P : Program} (t e : TypeId) {z : Value} {bytes : Nat} (tab : (P.info? e).map (fun i => (i.zero, i.size, i.bytes)) = some (some z, 1, bytes)) (ht : P.underlying t = some (.slice e)) (hz1 : z.cells = #[z])
    (n : Nat) (hb : bytes * n ≤ 281474976710656) (h63 : n ≤ 9223372036854775807) (w : World) :
    (Instr.makeSlice t (.int .i64 (n : Int)) (.int .i64 (n : Int))).run P w = .ok (.slice (some ⟨w.heap.size, 0, none⟩) n n) (w.alloc (.cells (zeros z n) e)) := by
  obtain ⟨i, hi, hz, hs1, hs2⟩ := info_parts tab
  have hb' : (i.bytes : Int) * (n : Int) ≤ 281474976710656 := by
    rw [hs2]
    have h : ((bytes * n : Nat) : Int) ≤ 281474976710656 := by omega
    rwa [Int.natCast_mul] at h
  have hr := run_make (P := P) w t e i z ht hi hz .i64 .i64 n n (by omega) (by omega) hb' (by omega)
  simp only [Int.toNat_natCast, hs1, hz1, Nat.mul_one] at hr
  exact hr
theorem own_made (w : World) (e : TypeId) (z : Value) (n base : Nat) (hb : base ≤ w.heap.size) (hm : n ≤ maxLen) :
    (w.alloc (.cells (zeros z n) e)).ownsRow base e 1 (.slice (some ⟨w.heap.size, 0, none⟩) n n) n (List.replicate n z) := by
  refine ⟨by simp, .inr ⟨w.heap.size, n, zeros z n, rfl, hb, heap_alloc_new w _, Nat.le_refl _, hm, by simp [zeros, size_madeCells], ?_⟩⟩
  rw [zeros, toList_madeCells_one, Nat.mul_one, List.take_of_length_le (by simp)]
/-- A place of an own row: its cell, and that it may be written. -/
theorem own_at {w : World} {base : Nat} {e : TypeId} {g n c : Nat} {xs : List Value} (h : w.ownsRow base e 1 (.slice (some ⟨g, 0, none⟩) n c) n xs) {k : Nat} (hk : k < n) :
    (∃ u, xs[k]? = some u ∧ w.cell? ⟨g, k, none⟩ = some u) ∧ w.frozen? ⟨g, k, none⟩ = false ∧ base ≤ g := by
  have hl : k < xs.length := by have := h.1; omega
  refine ⟨⟨xs[k], List.getElem?_eq_getElem hl, ?_⟩, h.frozenAt k, (h.lt g rfl).1⟩
  rw [h.cellAt k (by omega), List.getElem?_eq_getElem hl]
theorem own_form {w : World} {base : Nat} {e : TypeId} {size n : Nat} {v : Value} {xs : List Value} (h : w.ownsRow base e size v n xs) (hn : 0 < n) : ∃ g c, v = .slice (some ⟨g, 0, none⟩) n c := by
  rcases h.2 with ⟨_, h0⟩ | ⟨g, cap, cur, hv, _⟩
  · omega
  · exact ⟨g, cap, hv⟩
theorem take_set_succ {α : Type} (l : List α) (k : Nat) (x : α) (h : k < l.length) : (l.set k x).take (k + 1) = l.take k ++ [x] := by
  rw [List.take_succ_eq_append_getElem (by simpa using h)]
  simp [List.take_set_of_le]


theorem flat2_get {α : Type} (f g : α → Value) (xs : List α) : ∀ k, (xs.flatMap fun x => [f x, g x])[k * 2]? = xs[k]?.map f ∧ (xs.flatMap fun x => [f x, g x])[k * 2 + 1]? = xs[k]?.map g := by
  induction xs with
  | nil => intro k; simp
  | cons x xs ih =>
    intro k
    cases k with
    | zero => simp
    | succ k =>
      have := ih k
      rw [show (k + 1) * 2 = k * 2 + 2 from by omega]
      simpa using this
theorem Sl2.newAt {α : Type} (f g : α → Value) (w : World) (b : Nat) (xs : List α) (cs : Array Value) (T : TypeId) (hb : b = w.heap.size) (hcs : cs = (xs.flatMap fun x => [f x, g x]).toArray) : Sl2 f g (w.alloc (.cells cs T)) (some ⟨b, 0, none⟩) xs.length xs := by
  subst hb; subst hcs
  refine ⟨rfl, fun k x hx => ⟨_, _, rfl, ?_, ?_⟩⟩
  · rw [World.cell?_alloc_new, Nat.zero_add]; simp only [List.getElem?_toArray]; rw [(flat2_get f g xs k).1, hx]; rfl
  · rw [World.cell?_alloc_new, Nat.zero_add]; simp only [List.getElem?_toArray]; rw [(flat2_get f g xs k).2, hx]; rfl
theorem Sl2.sub {α : Type} {f g : α → Value} {w : World} {b off n : Nat} {xs : List α} (h : Sl2 f g w (some ⟨b, off, none⟩) n xs) (lo m : Nat) (hm : lo + m ≤ n) :
    Sl2 f g w (some ⟨b, off + lo * 2, none⟩) m ((xs.drop lo).take m) := by
  refine ⟨by have := h.1; simp; omega, fun k x hx => ?_⟩
  rw [List.getElem?_take] at hx
  split at hx
  · rw [List.getElem?_drop] at hx
    obtain ⟨b', off', e, h1, h2⟩ := h.2 _ _ hx
    injection e with e; injection e with e1 e2
    subst e1; subst e2
    exact ⟨_, _, rfl, by rw [show off + lo * 2 + k * 2 = off + (lo + k) * 2 from by omega]; exact h1, by rw [show off + lo * 2 + k * 2 + 1 = off + (lo + k) * 2 + 1 from by omega]; exact h2⟩
  · cases hx

theorem append_of_nil {P : Program} (w : World) (base : Nat) (t ty e : TypeId) (i : TypeInfo) (size : Nat) (ht : P.underlying t = some (.slice e)) (hi : P.info? e = some i)
    (v : Value) (n : Nat) (xs : List Value) (hown : w.ownsRow base e size v n xs) (c : Nat) : (Builtin.append_ #[t, t] ty #[v, .slice none 0 c]).run P w = .ok v w := by
  rcases hown.2 with ⟨rfl, rfl⟩ | ⟨g, cap, cur, rfl, _, _, hnc, _⟩
  · simp [Builtin.append_, run_underlying ht, sizeOf, typeInfo, hi, Builtin.lenOf, Builtin.firstCells]
  · simp [Builtin.append_, run_underlying ht, sizeOf, typeInfo, hi, Builtin.lenOf, Builtin.firstCells, hnc, storeCells]

/-- append of all of a slice of one-cell elements onto a row of the call's own. -/
theorem wpList_appendAll {P : Program} {ops : Array Oper} {rest : List Oper} {o : Oper} {a : Act} {Q : Exit → Act → World → Prop} {w : World} (hgd : o.guard = none) (s x : Operand) (t e : TypeId)
    (ho : o.op = .call { callee := .builtin .append, args := #[s, x], argTypes := #[t, t] })
    {z : Value} {bytes : Nat} (tab : (P.info? e).map (fun i => (i.zero, i.size, i.bytes)) = some (some z, 1, bytes)) (ht : P.underlying t = some (.slice e)) (hzs : z.cells.size = 1)
    (W0 : World) (hext : Ext W0 w) (v : Value) (n : Nat) (xs : List Value) (hs : a.eval s = v) (hown : w.ownsRow W0.heap.size e 1 v n xs)
    (A : Option Addr) (m c : Nat) (news : List Value) (hx : a.eval x = .slice A m c) (hr : Sl w A m news) (h1 : ∀ u ∈ news, u.oneCell' = true)
    (h63 : n + m ≤ maxLen) (hbytes : (n + m) * bytes ≤ 140737488355328)
    (h : ∀ v' w', w'.ownsRow W0.heap.size e 1 v' (n + m) (xs ++ news) → Ext W0 w' → w.grownBy w' v.ownBlock → wpList P ops Q rest (a.put o.dst v') w') : wpList P ops Q (o :: rest) a w := by
  obtain ⟨i, hi, hz, hs1, hs2⟩ := info_parts tab
  have hb : ∀ k, v.ownBlock = some k → W0.heap.size ≤ k := fun k hk => (hown.lt k hk).1
  cases A with
  | none =>
    have hm : m = 0 := by
      rcases Nat.eq_zero_or_pos m with e | e
      · exact e
      · have hl : 0 < news.length := by rw [hr.1]; exact e
        obtain ⟨b, off, e2, _⟩ := hr.2 0 _ (List.getElem?_eq_getElem hl)
        cases e2
    subst hm
    have hn : news = [] := List.eq_nil_of_length_eq_zero hr.1
    subst hn
    refine wpList_plain hgd fun K hK => ?_
    unfold Oper.wp execOp
    simp only [ho, resolve, invoke, builtin, Sem.run_bind, Sem.run_pure, Result.andThen_ok, List.map_toArray, List.map_cons, List.map_nil, hs, hx, append_of_nil (P := P) w W0.heap.size t o.type e i 1 ht hi v n xs hown c]
    exact hK _ _ (h v w (by simpa using hown) hext (World.grownBy.refl w _))
  | some ad =>
    have hcells : ∀ j u, news[j]? = some u → w.cell? (ad.add j) = some u := by
      intro j u hu
      obtain ⟨b, off, e2, hc⟩ := hr.2 j u hu
      injection e2 with e2
      subst e2
      rw [add_plain']; exact hc
    refine wpList_append_own _ hgd s x t ho W0.heap.size e i z 1 bytes ht hi hz hs1 hs2 hzs (by omega) v n xs hs hown ad m c news hx (by have := hr.1; omega) hcells h1 h63 hbytes hext.size ?_
    intro v' w' hown' hg _
    exact h v' w' hown' (Below.grown hext hg hext.size hb) hg
theorem own_empty (w : World) (e : TypeId) (size base : Nat) (hb : base ≤ w.heap.size) : (w.alloc (.cells #[] e)).ownsRow base e size (.slice (some ⟨w.heap.size, 0, none⟩) 0 0) 0 [] :=
  World.ownsRow_made w #[] 0 hb (Nat.zero_le _) (by simp)

/-- wpList_push where the element's new block is named by its number. -/
theorem wpList_pushB {P : Program} {ops : Array Oper} {rest : List Oper} {o : Oper} {a : Act} {Q : Exit → Act → World → Prop} {w : World} (hgd : o.guard = none) (s x : Operand) (t e : TypeId)
    (ho : o.op = .call { callee := .builtin .append, args := #[s, x], argTypes := #[t, t] })
    {z : Value} {size bytes : Nat} (tab : (P.info? e).map (fun i => (i.zero, i.size, i.bytes)) = some (some z, size, bytes)) (ht : P.underlying t = some (.slice e)) (hzs : z.cells.size = size) (hsz : 0 < size)
    (W0 w0 : World) (hext : Ext W0 w0) (v : Value) (n : Nat) (xs : List Value) (hs : a.eval s = v) (hown : w0.ownsRow W0.heap.size e size v n xs)
    (news : List Value) (hl : news.length = size) (hw : w = w0.alloc (.cells news.toArray e)) (B : Nat) (hx : a.eval x = .slice (some ⟨B, 0, none⟩) 1 1) (hB : B = w0.heap.size) (h1 : ∀ u ∈ news, u.oneCell' = true)
    (h63 : n + 1 ≤ maxLen) (hbytes : (n + 1) * bytes ≤ 140737488355328)
    (h : ∀ v' w', w'.ownsRow W0.heap.size e size v' (n + 1) (xs ++ news) → Ext W0 w' → w0.grownBy w' v.ownBlock → wpList P ops Q rest (a.put o.dst v') w') : wpList P ops Q (o :: rest) a w :=
  wpList_push hgd s x t e ho tab ht hzs hsz W0 w0 hext v n xs hs hown news hl hw (by rw [hx, hB]) h1 h63 hbytes h
end Go.Proofs.Ytjagbnaacfhokaa
