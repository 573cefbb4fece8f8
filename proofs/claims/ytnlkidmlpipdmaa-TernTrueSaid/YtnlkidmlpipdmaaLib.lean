/- Words on memory that all walks of this seat share: a slice that reads as a list, worlds that keep what was there. No program in sight. -/
import Derived.WalkKit
import Derived.WalkLawsBesides
import Derived.WalkSpells
import Derived.Deep.QuietTactic
import Derived.BigQuiet
import Derived.Lib.Hide
import Derived.Deep.LoopGhost
import Derived.Deep.Draws
import Derived.Laws.OwnMore
import Derived.Deep.AppendLies
import Derived.Laws.Rows
namespace Go.Proofs.Ytnlkidmlpipdmaa
open Go.RowKit

abbrev I (n : Int) : Value := .int .i64 n

/-- What is a cell stays the same cell. -/
def Keeps (w w' : World) : Prop := ∀ p u, w.cell? p = some u → w'.cell? p = some u

theorem Keeps.refl (w : World) : Keeps w w := fun _ _ h => h
theorem Keeps.trans {a b c : World} (h : Keeps a b) (k : Keeps b c) : Keeps a c := fun p u e => k p u (h p u e)

theorem lt_of_cell {w : World} {p : Addr} {u : Value} (h : w.cell? p = some u) : p.block < w.heap.size := by
  unfold World.cell? at h
  rcases Nat.lt_or_ge p.block w.heap.size with hl | hl
  · exact hl
  · rw [Array.getElem?_eq_none hl] at h; cases h

theorem Keeps.of_below {w w' : World} (h : Below w.heap.size w w') : Keeps w w' := fun p u e => (h.cell (lt_of_cell e)).trans e
theorem Keeps.drewN (w : World) (n : Nat) : Keeps w (w.drewN n) := fun _ _ h => h
theorem Keeps.drew (w : World) : Keeps w w.drew := fun _ _ h => h
theorem Keeps.alloc (w : World) (o : Obj) : Keeps w (w.alloc o) := fun p u e => (World.cell?_alloc_lt w o p (lt_of_cell e)).trans e

theorem below_drewN' {B : Nat} {a w : World} (h : Below B a w) (n : Nat) : Below B a (w.drewN n) := ⟨h.os, h.tape, h.output, h.size, h.block⟩
theorem below_of_drewN (w : World) (n : Nat) : Below w.heap.size w (w.drewN n) := below_drewN' (Below.refl _ _) n

/-- All that was there is as it was; new memory may have come. -/
def Ext (w w' : World) : Prop := Below w.heap.size w w'
section
variable {a b c : World}
theorem Ext.refl (w : World) : Ext w w := Below.refl _ _
theorem Ext.size (h : Ext a b) : a.heap.size ≤ b.heap.size := Below.size h
theorem Ext.trans (h : Ext a b) (k : Ext b c) : Ext a c := Below.trans h (Below.mono k (Below.size h))
theorem Ext.alloc (h : Ext a b) (o : Obj) : Ext a (b.alloc o) := Below.alloc h (Below.size h) o
theorem Ext.drewN (h : Ext a b) (n : Nat) : Ext a (b.drewN n) := below_drewN' h n
theorem Ext.drew (h : Ext a b) : Ext a b.drew := below_drewN' h 1
theorem Ext.setCell (h : Ext a b) {p : Addr} (hp : a.heap.size ≤ p.block) (v : Value) : Ext a (b.setCell p v) := Below.setCell h hp v
theorem Ext.keeps (h : Ext a b) : Keeps a b := Keeps.of_below h
end

/-- A slice's head, n places of one cell each, that reads cs. -/
def Sl (w : World) (A : Option Addr) (n : Nat) (cs : List Value) : Prop :=
  cs.length = n ∧ ∀ k u, cs[k]? = some u → ∃ ad, A = some ad ∧ w.cell? (ad.add k) = some u

section
variable {w w' : World} {A : Option Addr} {n : Nat} {cs : List Value}
theorem Sl.keep (h : Sl w A n cs) (hk : Keeps w w') : Sl w' A n cs :=
  ⟨h.1, fun k u hu => let ⟨ad, e, hc⟩ := h.2 k u hu; ⟨ad, e, hk _ _ hc⟩⟩
theorem Sl.nil (w : World) (A : Option Addr) : Sl w A 0 [] := ⟨rfl, fun k u h => by simp at h⟩
theorem Sl.next {xs : List Int} (h : Sl w A n (xs.map I)) {k : Nat} (hk : k < n) :
    ∃ ad x, A = some ad ∧ w.cell? (ad.add k) = some (I x) ∧ xs.drop k = x :: xs.drop (k + 1) := by
  have hl : k < xs.length := by have := h.1; simp at this; omega
  obtain ⟨ad, e, hc⟩ := h.2 k (I xs[k]) (by simp [List.getElem?_eq_getElem hl])
  exact ⟨ad, xs[k], e, hc, List.drop_eq_getElem_cons hl⟩
theorem Sl.at_ {xs : List Int} (h : Sl w A n (xs.map I)) {k : Nat} (hk : k < n) :
    ∃ ad x, A = some ad ∧ w.cell? (ad.add k) = some (I x) ∧ xs[k]? = some x := by
  have hl : k < xs.length := by have := h.1; simp at this; omega
  obtain ⟨ad, e, hc⟩ := h.2 k (I xs[k]) (by simp [List.getElem?_eq_getElem hl])
  exact ⟨ad, xs[k], e, hc, List.getElem?_eq_getElem hl⟩
theorem Sl.len {xs : List Int} (h : Sl w A n (xs.map I)) : xs.length = n := by simpa using h.1
theorem Sl.drop_end {xs : List Int} (h : Sl w A n (xs.map I)) {k : Nat} (hk : ¬ k < n) : xs.drop k = [] := by
  have := h.len; exact List.drop_eq_nil_of_le (by omega)
end

theorem sl_of_row {w : World} {x : Addr} {len cap : Nat} {zs : List Int} (hl : len ≤ cap) (hz : zs.length = cap)
    (hc : ∀ i, i < zs.length → w.cell? (x.add i) = some (.int .i64 (zs.getD i 0))) : Sl w (some x) len ((zs.take len).map I) := by
  refine ⟨by simp; omega, fun k u hu => ⟨x, rfl, ?_⟩⟩
  rw [List.getElem?_map, List.getElem?_take] at hu
  split at hu
  · rename_i hk
    rw [hc k (by omega)]
    rw [List.getD_eq_getElem?_getD, ]
    rw [List.getElem?_eq_getElem (by omega)] at hu ⊢
    simpa using hu
  · simp at hu

theorem add_zero (b k : Nat) : (⟨b, 0, none⟩ : Addr).add k = ⟨b, k, none⟩ := by unfold Addr.add; split <;> simp_all
theorem Sl.new (w : World) (cs : List Value) (T : TypeId) : Sl (w.alloc (.cells cs.toArray T)) (some ⟨w.heap.size, 0, none⟩) cs.length cs :=
  ⟨rfl, fun k u hu => ⟨_, rfl, by rw [add_zero, World.cell?_alloc_new]; simpa using hu⟩⟩

theorem Sl.newAt (w : World) (b : Nat) (cs : List Value) (T : TypeId) (hb : b = w.heap.size) : Sl (w.alloc (.cells cs.toArray T)) (some ⟨b, 0, none⟩) cs.length cs := by
  subst hb; exact Sl.new w cs T

/-! rows that the call itself made -/
theorem own_ext {w w' : World} {base : Nat} {e : TypeId} {size n : Nat} {v : Value} {xs : List Value} (h : w.ownsRow base e size v n xs) (hx : Ext w w') : w'.ownsRow base e size v n xs := by
  rcases h with ⟨hl, ⟨rfl, rfl⟩ | ⟨g, cap, cur, rfl, hg, hh, r⟩⟩
  · exact ⟨hl, .inl ⟨rfl, rfl⟩⟩
  · refine ⟨hl, .inr ⟨g, cap, cur, rfl, hg, ?_, r⟩⟩
    have hlt : g < w.heap.size := by
      rcases Nat.lt_or_ge g w.heap.size with h | h
      · exact h
      · rw [Array.getElem?_eq_none h] at hh; cases hh
    exact (hx.block g hlt).trans hh
theorem own_base {w : World} {base base' : Nat} {e : TypeId} {size n : Nat} {v : Value} {xs : List Value} (h : w.ownsRow base e size v n xs) (hb : base' ≤ base) : w.ownsRow base' e size v n xs := by
  rcases h with ⟨hl, h | ⟨g, cap, cur, hv, hg, r⟩⟩
  · exact ⟨hl, .inl h⟩
  · exact ⟨hl, .inr ⟨g, cap, cur, hv, by omega, r⟩⟩
theorem own_slice {w : World} {base : Nat} {e : TypeId} {size n : Nat} {v : Value} {xs : List Value} (h : w.ownsRow base e size v n xs) :
    ∃ A c, v = .slice A n c ∧ n ≤ c ∧ c ≤ maxLen ∧ ∀ k u, xs[k]? = some u → ∃ ad, A = some ad ∧ w.cell? (ad.add k) = some u := by
  have h' := h
  rcases h with ⟨hl, ⟨rfl, rfl⟩ | ⟨g, cap, cur, rfl, hg, hh, hnc, hm, r⟩⟩
  · refine ⟨none, 0, rfl, Nat.le_refl _, Nat.zero_le _, fun k u hu => ?_⟩
    have : xs = [] := List.eq_nil_of_length_eq_zero (by simpa using hl)
    subst this; simp at hu
  · exact ⟨_, _, rfl, hnc, hm, fun k u hu => ⟨_, rfl, h'.cells rfl k u hu⟩⟩
theorem own_sl {w : World} {base : Nat} {e : TypeId} {n : Nat} {v : Value} {xs : List Value} (h : w.ownsRow base e 1 v n xs) : ∃ A c, v = .slice A n c ∧ n ≤ c ∧ c ≤ maxLen ∧ Sl w A n xs := by
  obtain ⟨A, c, hv, h1, h2, hc⟩ := own_slice h
  exact ⟨A, c, hv, h1, h2, by have := h.1; omega, hc⟩

/-- append of one element onto a row of the call's own, behind the store of the element into its new block. -/
theorem wpList_push {P : Program} {ops : Array Oper} {rest : List Oper} {o : Oper} {a : Act} {Q : Exit → Act → World → Prop} {w : World} (hgd : o.guard = none) (s x : Operand) (t e : TypeId)
    (ho : o.op = .call { callee := .builtin .append, args := #[s, x], argTypes := #[t, t] })
    {z : Value} {size bytes : Nat} (tab : (P.info? e).map (fun i => (i.zero, i.size, i.bytes)) = some (some z, size, bytes)) (ht : P.underlying t = some (.slice e)) (hzs : z.cells.size = size) (hsz : 0 < size)
    (W0 w0 : World) (hext : Ext W0 w0) (v : Value) (n : Nat) (xs : List Value) (hs : a.eval s = v) (hown : w0.ownsRow W0.heap.size e size v n xs)
    (news : List Value) (hl : news.length = size) (hw : w = w0.alloc (.cells news.toArray e)) (hx : a.eval x = .slice (some ⟨w0.heap.size, 0, none⟩) 1 1) (h1 : ∀ u ∈ news, u.oneCell' = true)
    (h63 : n + 1 ≤ maxLen) (hbytes : (n + 1) * bytes ≤ 140737488355328)
    (h : ∀ v' w', w'.ownsRow W0.heap.size e size v' (n + 1) (xs ++ news) → Ext W0 w' → w0.grownBy w' v.ownBlock → wpList P ops Q rest (a.put o.dst v') w') : wpList P ops Q (o :: rest) a w := by
  subst hw
  obtain ⟨i, hi, hz, hs1, hs2⟩ := info_parts tab
  refine wpList_append_own _ hgd s x t ho W0.heap.size e i z size bytes ht hi hz hs1 hs2 hzs hsz v n xs hs (hown.alloc _) ⟨w0.heap.size, 0, none⟩ 1 1 news hx (by omega) (fun j u hu => ?_) h1 h63 hbytes (Nat.le_trans hext.size (by simp)) ?_
  · rw [add_zero, World.cell?_alloc_new]; simpa using hu
  · intro v' w' hown' hg _
    refine h v' w' hown' (Below.grown (hext.alloc _) hg (Nat.le_trans hext.size (by simp)) (fun k hk => (hown.lt k hk).1)) ?_
    exact ⟨hg.os, hg.tape, hg.output, Nat.le_trans (by simp) hg.size, fun k hk hne => (hg.block k (by simp; omega) hne).trans (Below.heap_alloc w0 _ k hk)⟩

theorem ret_int {k : IntKind} {a b : Int} (h : a = b) : Ending.returned (.int k a) = .returned (.int k b) := by rw [h]
theorem ret_bool {a b : Bool} (h : a = b) : Ending.returned (.bool a) = .returned (.bool b) := by rw [h]
/-- A pair that a call hands back. -/
abbrev Pr (a b : Value) : Value := .tuple #[a, b]
theorem ret_pair {a b c d : Value} (h : a = c) (k : b = d) : Ending.returned (Pr a b) = .returned (Pr c d) := by rw [h, k]
end Go.Proofs.Ytnlkidmlpipdmaa
