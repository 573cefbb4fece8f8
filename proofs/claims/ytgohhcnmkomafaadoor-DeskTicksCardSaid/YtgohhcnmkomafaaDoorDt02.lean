/- Words on memory that all walks of this seat share: a slice that reads as a list, worlds that keep what was there. No program in sight. -/
import Derived.WalkKit
import Derived.WalkLawsBesides
import Derived.WalkSpells
import Derived.Deep.QuietTactic
import Derived.BigQuiet
import Derived.Lib.Hide
import Derived.Deep.LoopGhost
import Derived.Deep.Draws
import Derived.Laws.OwnMore
import Derived.Deep.AppendLies
import Derived.Laws.Rows
import Derived.Test.YtgohhcnmkomafaaDoorChecked
import Derived.Test.YtgohhcnmkomafaaDoorDt01
import Derived.Laws.IdiomStrings
namespace Go.Proofs.YtgohhcnmkomafaaDoor
set_option linter.unusedVariables false
set_option linter.unusedSimpArgs false
set_option linter.unusedVariables false
set_option linter.unusedSimpArgs false
open Go.RowKit
abbrev I (n : Int) : Value := .int .i64 n
/-- What is a cell stays the same cell. -/
def Keeps (w w' : World) : Prop := ∀ p u, w.cell? p = some u → w'.cell? p = some u
theorem Keeps.refl (w : World) : Keeps w w := fun _ _ h => h
theorem Keeps.trans {a b c : World} (h : Keeps a b) (k : Keeps b c) : Keeps a c := fun p u e => k p u (h p u e)
theorem lt_of_cell {w : World} {p : Addr} {u : Value} (h : w.cell? p = some u) : p.block < w.heap.size := by
  unfold World.cell? at h
  rcases Nat.lt_or_ge p.block w.heap.size with hl | hl
  · exact hl
  · rw [Array.getElem?_eq_none hl] at h; cases h
theorem Keeps.of_below {w w' : World} (h : Below w.heap.size w w') : Keeps w w' := fun p u e => (h.cell (lt_of_cell e)).trans e
theorem Keeps.drewN (w : World) (n : Nat) : Keeps w (w.drewN n) := fun _ _ h => h
theorem Keeps.drew (w : World) : Keeps w w.drew := fun _ _ h => h
theorem Keeps.alloc (w : World) (o : Obj) : Keeps w (w.alloc o) := fun p u e => (World.cell?_alloc_lt w o p (lt_of_cell e)).trans e
theorem below_drewN' {B : Nat} {a w : World} (h : Below B a w) (n : Nat) : Below B a (w.drewN n) := ⟨h.os, h.tape, h.output, h.size, h.block⟩
/-- All that was there is as it was; new memory may have come. -/
def Ext (w w' : World) : Prop := Below w.heap.size w w'
section
variable {a b c : World}
theorem Ext.refl (w : World) : Ext w w := Below.refl _ _
theorem Ext.size (h : Ext a b) : a.heap.size ≤ b.heap.size := Below.size h
theorem Ext.trans (h : Ext a b) (k : Ext b c) : Ext a c := Below.trans h (Below.mono k (Below.size h))
theorem Ext.alloc (h : Ext a b) (o : Obj) : Ext a (b.alloc o) := Below.alloc h (Below.size h) o
theorem Ext.drewN (h : Ext a b) (n : Nat) : Ext a (b.drewN n) := below_drewN' h n
theorem Ext.drew (h : Ext a b) : Ext a b.drew := below_drewN' h 1
theorem Ext.setCell (h : Ext a b) {p : Addr} (hp : a.heap.size ≤ p.block) (v : Value) : Ext a (b.setCell p v) := Below.setCell h hp v
theorem Ext.keeps (h : Ext a b) : Keeps a b := Keeps.of_below h
end
/-- A slice's head, n places of one cell each, that reads cs. -/
def Sl (w : World) (A : Option Addr) (n : Nat) (cs : List Value) : Prop :=
  cs.length = n ∧ ∀ k u, cs[k]? = some u → ∃ b off, A = some ⟨b, off, none⟩ ∧ w.cell? ⟨b, off + k, none⟩ = some u
section
variable {w w' : World} {A : Option Addr} {n : Nat} {cs : List Value}
theorem Sl.keep (h : Sl w A n cs) (hk : Keeps w w') : Sl w' A n cs :=
  ⟨h.1, fun k u hu => let ⟨b, o, e, hc⟩ := h.2 k u hu; ⟨b, o, e, hk _ _ hc⟩⟩
theorem Sl.nil (w : World) (A : Option Addr) : Sl w A 0 [] := ⟨rfl, fun k u h => by simp at h⟩
theorem Sl.len {α : Type} {f : α → Value} {xs : List α} (h : Sl w A n (xs.map f)) : xs.length = n := by simpa using h.1
theorem Sl.at_ {α : Type} {f : α → Value} {xs : List α} (h : Sl w A n (xs.map f)) {k : Nat} (hk : k < n) :
    ∃ b off x, A = some ⟨b, off, none⟩ ∧ w.cell? ⟨b, off + k, none⟩ = some (f x) ∧ xs[k]? = some x := by
  have hl : k < xs.length := by have := h.len; omega
  obtain ⟨b, off, e, hc⟩ := h.2 k (f xs[k]) (by simp [List.getElem?_eq_getElem hl])
  exact ⟨b, off, xs[k], e, hc, List.getElem?_eq_getElem hl⟩
theorem Sl.next {α : Type} {f : α → Value} {xs : List α} (h : Sl w A n (xs.map f)) {k : Nat} (hk : k < n) :
    ∃ b off x, A = some ⟨b, off, none⟩ ∧ w.cell? ⟨b, off + k, none⟩ = some (f x) ∧ xs.drop k = x :: xs.drop (k + 1) := by
  have hl : k < xs.length := by have := h.len; omega
  obtain ⟨b, off, e, hc⟩ := h.2 k (f xs[k]) (by simp [List.getElem?_eq_getElem hl])
  exact ⟨b, off, xs[k], e, hc, List.drop_eq_getElem_cons hl⟩
theorem Sl.drop_end {α : Type} {f : α → Value} {xs : List α} (h : Sl w A n (xs.map f)) {k : Nat} (hk : ¬ k < n) : xs.drop k = [] := by
  have := h.len; exact List.drop_eq_nil_of_le (by omega)
end
theorem add_plain' (b o k : Nat) : (⟨b, o, none⟩ : Addr).add k = ⟨b, o + k, none⟩ := by unfold Addr.add; split <;> simp_all
theorem spot_none {w : World} {a : Addr} {k : Nat} {u : Value} (h : w.cell? (a.add k) = some u) (hk : k = 0) : a.spot = none := by
  subst hk
  obtain ⟨b, o, s⟩ := a
  cases s with
  | none => rfl
  | some x => simp [Addr.add, World.cell?] at h; split at h <;> simp at h
theorem sl_of_row {w : World} {x : Addr} {len cap : Nat} {zs : List Int} (hl : len ≤ cap) (hz : zs.length = cap)
    (hc : ∀ i, i < zs.length → w.cell? (x.add i) = some (.int .i64 (zs.getD i 0))) : Sl w (some x) len ((zs.take len).map I) := by
  refine ⟨by simp; omega, fun k u hu => ?_⟩
  rw [List.getElem?_map, List.getElem?_take] at hu
  split at hu
  · rename_i hk
    have hs : x.spot = none := spot_none (hc 0 (by omega)) rfl
    obtain ⟨b, o, s⟩ := x
    subst hs
    refine ⟨b, o, rfl, ?_⟩
    have h := hc k (by omega)
    rw [add_plain'] at h
    rw [h, List.getD_eq_getElem?_getD]
    rw [List.getElem?_eq_getElem (by omega)] at hu ⊢
    simpa using hu
  · simp at hu
theorem add_zero (b k : Nat) : (⟨b, 0, none⟩ : Addr).add k = ⟨b, k, none⟩ := by unfold Addr.add; split <;> simp_all
theorem Sl.new (w : World) (cs : List Value) (T : TypeId) : Sl (w.alloc (.cells cs.toArray T)) (some ⟨w.heap.size, 0, none⟩) cs.length cs :=
  ⟨rfl, fun k u hu => ⟨_, _, rfl, by rw [World.cell?_alloc_new]; simpa using hu⟩⟩
theorem Sl.newAt (w : World) (b : Nat) (cs : List Value) (T : TypeId) (hb : b = w.heap.size) : Sl (w.alloc (.cells cs.toArray T)) (some ⟨b, 0, none⟩) cs.length cs := by
  subst hb; exact Sl.new w cs T
/-! rows that the call itself made -/
theorem own_ext {w w' : World} {base : Nat} {e : TypeId} {size n : Nat} {v : Value} {xs : List Value} (h : w.ownsRow base e size v n xs) (hx : Ext w w') : w'.ownsRow base e size v n xs := by
  rcases h with ⟨hl, ⟨rfl, rfl⟩ | ⟨g, cap, cur, rfl, hg, hh, r⟩⟩
  · exact ⟨hl, .inl ⟨rfl, rfl⟩⟩
  · refine ⟨hl, .inr ⟨g, cap, cur, rfl, hg, ?_, r⟩⟩
    have hlt : g < w.heap.size := by
      rcases Nat.lt_or_ge g w.heap.size with h | h
      · exact h
      · rw [Array.getElem?_eq_none h] at hh; cases hh
    exact (hx.block g hlt).trans hh
theorem own_base {w : World} {base base' : Nat} {e : TypeId} {size n : Nat} {v : Value} {xs : List Value} (h : w.ownsRow base e size v n xs) (hb : base' ≤ base) : w.ownsRow base' e size v n xs := by
  rcases h with ⟨hl, h | ⟨g, cap, cur, hv, hg, r⟩⟩
  · exact ⟨hl, .inl h⟩
  · exact ⟨hl, .inr ⟨g, cap, cur, hv, by omega, r⟩⟩
theorem own_slice {w : World} {base : Nat} {e : TypeId} {size n : Nat} {v : Value} {xs : List Value} (h : w.ownsRow base e size v n xs) :
    ∃ A c, v = .slice A n c ∧ n ≤ c ∧ c ≤ maxLen ∧ ∀ k u, xs[k]? = some u → ∃ b off, A = some ⟨b, off, none⟩ ∧ w.cell? ⟨b, off + k, none⟩ = some u := by
  have h' := h
  rcases h with ⟨hl, ⟨rfl, rfl⟩ | ⟨g, cap, cur, rfl, hg, hh, hnc, hm, r⟩⟩
  · refine ⟨none, 0, rfl, Nat.le_refl _, Nat.zero_le _, fun k u hu => ?_⟩
    have : xs = [] := List.eq_nil_of_length_eq_zero (by simpa using hl)
    subst this; simp at hu
  · exact ⟨_, _, rfl, hnc, hm, fun k u hu => ⟨_, _, rfl, by have := h'.cells rfl k u hu; rwa [add_plain'] at this⟩⟩
theorem own_sl {w : World} {base : Nat} {e : TypeId} {n : Nat} {v : Value} {xs : List Value} (h : w.ownsRow base e 1 v n xs) : ∃ A c, v = .slice A n c ∧ n ≤ c ∧ c ≤ maxLen ∧ Sl w A n xs := by
  obtain ⟨A, c, hv, h1, h2, hc⟩ := own_slice h
  exact ⟨A, c, hv, h1, h2, by have := h.1; omega, hc⟩
/-- append of one element onto a row of the call's own, behind the store of the element into its new block. -/
theorem wpList_push {P : Program} {ops : Array Oper} {rest : List Oper} {o : Oper} {a : Act} {Q : Exit → Act → World → Prop} {w : World} (hgd : o.guard = none) (s x : Operand) (t e : TypeId)
    (ho : o.op = .call { callee := .builtin .append, args := #[s, x], argTypes := #[t, t] })
    {z : Value} {size bytes : Nat} (tab : (P.info? e).map (fun i => (i.zero, i.size, i.bytes)) = some (some z, size, bytes)) (ht : P.underlying t = some (.slice e)) (hzs : z.cells.size = size) (hsz : 0 < size)
    (W0 w0 : World) (hext : Ext W0 w0) (v : Value) (n : Nat) (xs : List Value) (hs : a.eval s = v) (hown : w0.ownsRow W0.heap.size e size v n xs)
    (news : List Value) (hl : news.length = size) (hw : w = w0.alloc (.cells news.toArray e)) (hx : a.eval x = .slice (some ⟨w0.heap.size, 0, none⟩) 1 1) (h1 : ∀ u ∈ news, u.oneCell' = true)
    (h63 : n + 1 ≤ maxLen) (hbytes : (n + 1) * bytes ≤ 140737488355328)
    (h : ∀ v' w', w'.ownsRow W0.heap.size e size v' (n + 1) (xs ++ news) → Ext W0 w' → w0.grownBy w' v.ownBlock → wpList P ops Q rest (a.put o.dst v') w') : wpList P ops Q (o :: rest) a w := by
  subst hw
  obtain ⟨i, hi, hz, hs1, hs2⟩ := info_parts tab
  refine wpList_append_own _ hgd s x t ho W0.heap.size e i z size bytes ht hi hz hs1 hs2 hzs hsz v n xs hs (hown.alloc _) ⟨w0.heap.size, 0, none⟩ 1 1 news hx (by omega) (fun j u hu => ?_) h1 h63 hbytes (Nat.le_trans hext.size (by simp)) ?_
  · rw [add_zero, World.cell?_alloc_new]; simpa using hu
  · intro v' w' hown' hg _
    refine h v' w' hown' (Below.grown (hext.alloc _) hg (Nat.le_trans hext.size (by simp)) (fun k hk => (hown.lt k hk).1)) ?_
    exact ⟨hg.os, hg.tape, hg.output, Nat.le_trans (by simp) hg.size, fun k hk hne => (hg.block k (by simp; omega) hne).trans (Below.heap_alloc w0 _ k hk)⟩
theorem ret_int {k : IntKind} {a b : Int} (h : a = b) : Ending.returned (.int k a) = .returned (.int k b) := by rw [h]
theorem ret_bool {a b : Bool} (h : a = b) : Ending.returned (.bool a) = .returned (.bool b) := by rw [h]
/-- A pair that a call hands back. -/
abbrev Pr (a b : Value) : Value := .tuple #[a, b]
theorem ret_pair {a b c d : Value} (h : a = c) (k : b = d) : Ending.returned (Pr a b) = .returned (Pr c d) := by rw [h, k]
/-- A slice of structs of two cells (or any pair of cells): the reading of place k is f of the k-th element. -/
def Sl2 {α : Type} (f g : α → Value) (w : World) (A : Option Addr) (n : Nat) (xs : List α) : Prop :=
  xs.length = n ∧ ∀ k x, xs[k]? = some x → ∃ b off, A = some ⟨b, off, none⟩ ∧ w.cell? ⟨b, off + k * 2, none⟩ = some (f x) ∧ w.cell? ⟨b, off + k * 2 + 1, none⟩ = some (g x)
section
variable {α : Type} {f g : α → Value} {w w' : World} {A : Option Addr} {n : Nat} {xs : List α}
theorem Sl2.keep (h : Sl2 f g w A n xs) (hk : Keeps w w') : Sl2 f g w' A n xs :=
  ⟨h.1, fun k u hu => let ⟨b, o, e, hc, hd⟩ := h.2 k u hu; ⟨b, o, e, hk _ _ hc, hk _ _ hd⟩⟩
theorem Sl2.nil (f g : α → Value) (w : World) (A : Option Addr) : Sl2 f g w A 0 [] := ⟨rfl, fun k u h => by simp at h⟩
theorem Sl2.next (h : Sl2 f g w A n xs) {k : Nat} (hk : k < n) :
    ∃ b off x, A = some ⟨b, off, none⟩ ∧ w.cell? ⟨b, off + k * 2, none⟩ = some (f x) ∧ w.cell? ⟨b, off + k * 2 + 1, none⟩ = some (g x) ∧ xs.drop k = x :: xs.drop (k + 1) ∧ xs[k]? = some x := by
  have hl : k < xs.length := by have := h.1; omega
  obtain ⟨b, off, e, hc, hd⟩ := h.2 k xs[k] (List.getElem?_eq_getElem hl)
  exact ⟨b, off, xs[k], e, hc, hd, List.drop_eq_getElem_cons hl, List.getElem?_eq_getElem hl⟩
theorem Sl2.drop_end (h : Sl2 f g w A n xs) {k : Nat} (hk : ¬ k < n) : xs.drop k = [] := by
  have := h.1; exact List.drop_eq_nil_of_le (by omega)
end
abbrev Bv (b : Bool) : Value := .bool b
abbrev Pr3 (a b c : Value) : Value := .tuple #[a, b, c]
/-- The new row of a make: n times z. -/
def zeros (z : Value) (n : Nat) : Array Value := madeCells #[z] n
theorem run_make1 {P : Program} (t e : TypeId) {z : Value} {bytes : Nat} (tab : (P.info? e).map (fun i => (i.zero, i.size, i.bytes)) = some (some z, 1, bytes)) (ht : P.underlying t = some (.slice e)) (hz1 : z.cells = #[z])
    (n : Nat) (hb : bytes * n ≤ 281474976710656) (h63 : n ≤ 9223372036854775807) (w : World) :
    (Instr.makeSlice t (.int .i64 (n : Int)) (.int .i64 (n : Int))).run P w = .ok (.slice (some ⟨w.heap.size, 0, none⟩) n n) (w.alloc (.cells (zeros z n) e)) := by
  obtain ⟨i, hi, hz, hs1, hs2⟩ := info_parts tab
  have hb' : (i.bytes : Int) * (n : Int) ≤ 281474976710656 := by
    rw [hs2]
    have h : ((bytes * n : Nat) : Int) ≤ 281474976710656 := by omega
    rwa [Int.natCast_mul] at h
  have hr := run_make (P := P) w t e i z ht hi hz .i64 .i64 n n (by omega) (by omega) hb' (by omega)
  simp only [Int.toNat_natCast, hs1, hz1, Nat.mul_one] at hr
  exact hr
theorem own_made (w : World) (e : TypeId) (z : Value) (n base : Nat) (hb : base ≤ w.heap.size) (hm : n ≤ maxLen) :
    (w.alloc (.cells (zeros z n) e)).ownsRow base e 1 (.slice (some ⟨w.heap.size, 0, none⟩) n n) n (List.replicate n z) := by
  refine ⟨by simp, .inr ⟨w.heap.size, n, zeros z n, rfl, hb, heap_alloc_new w _, Nat.le_refl _, hm, by simp [zeros, size_madeCells], ?_⟩⟩
  rw [zeros, toList_madeCells_one, Nat.mul_one, List.take_of_length_le (by simp)]
/-- A place of an own row: its cell, and that it may be written. -/
theorem own_at {w : World} {base : Nat} {e : TypeId} {g n c : Nat} {xs : List Value} (h : w.ownsRow base e 1 (.slice (some ⟨g, 0, none⟩) n c) n xs) {k : Nat} (hk : k < n) :
    (∃ u, xs[k]? = some u ∧ w.cell? ⟨g, k, none⟩ = some u) ∧ w.frozen? ⟨g, k, none⟩ = false ∧ base ≤ g := by
  have hl : k < xs.length := by have := h.1; omega
  refine ⟨⟨xs[k], List.getElem?_eq_getElem hl, ?_⟩, h.frozenAt k, (h.lt g rfl).1⟩
  rw [h.cellAt k (by omega), List.getElem?_eq_getElem hl]
theorem own_form {w : World} {base : Nat} {e : TypeId} {size n : Nat} {v : Value} {xs : List Value} (h : w.ownsRow base e size v n xs) (hn : 0 < n) : ∃ g c, v = .slice (some ⟨g, 0, none⟩) n c := by
  rcases h.2 with ⟨_, h0⟩ | ⟨g, cap, cur, hv, _⟩
  · omega
  · exact ⟨g, cap, hv⟩
theorem flat2_get {α : Type} (f g : α → Value) (xs : List α) : ∀ k, (xs.flatMap fun x => [f x, g x])[k * 2]? = xs[k]?.map f ∧ (xs.flatMap fun x => [f x, g x])[k * 2 + 1]? = xs[k]?.map g := by
  induction xs with
  | nil => intro k; simp
  | cons x xs ih =>
    intro k
    cases k with
    | zero => simp
    | succ k =>
      have := ih k
      rw [show (k + 1) * 2 = k * 2 + 2 from by omega]
      simpa using this
theorem Sl2.newAt {α : Type} (f g : α → Value) (w : World) (b : Nat) (xs : List α) (cs : Array Value) (T : TypeId) (hb : b = w.heap.size) (hcs : cs = (xs.flatMap fun x => [f x, g x]).toArray) : Sl2 f g (w.alloc (.cells cs T)) (some ⟨b, 0, none⟩) xs.length xs := by
  subst hb; subst hcs
  refine ⟨rfl, fun k x hx => ⟨_, _, rfl, ?_, ?_⟩⟩
  · rw [World.cell?_alloc_new, Nat.zero_add]; simp only [List.getElem?_toArray]; rw [(flat2_get f g xs k).1, hx]; rfl
  · rw [World.cell?_alloc_new, Nat.zero_add]; simp only [List.getElem?_toArray]; rw [(flat2_get f g xs k).2, hx]; rfl
theorem Sl2.sub {α : Type} {f g : α → Value} {w : World} {b off n : Nat} {xs : List α} (h : Sl2 f g w (some ⟨b, off, none⟩) n xs) (lo m : Nat) (hm : lo + m ≤ n) :
    Sl2 f g w (some ⟨b, off + lo * 2, none⟩) m ((xs.drop lo).take m) := by
  refine ⟨by have := h.1; simp; omega, fun k x hx => ?_⟩
  rw [List.getElem?_take] at hx
  split at hx
  · rw [List.getElem?_drop] at hx
    obtain ⟨b', off', e, h1, h2⟩ := h.2 _ _ hx
    injection e with e; injection e with e1 e2
    subst e1; subst e2
    exact ⟨_, _, rfl, by rw [show off + lo * 2 + k * 2 = off + (lo + k) * 2 from by omega]; exact h1, by rw [show off + lo * 2 + k * 2 + 1 = off + (lo + k) * 2 + 1 from by omega]; exact h2⟩
  · cases hx
end Go.Proofs.YtgohhcnmkomafaaDoor
/- Letters of signs, by the program and by the reference. -/
namespace Go.Proofs.YtgohhcnmkomafaaDoor
set_option linter.unusedVariables false
set_option linter.unusedSimpArgs false
open Go.RowKit
/-- A string value of bytes. -/
abbrev S (l : List UInt8) : Value := .string ⟨l.toArray⟩
theorem letter_any (f : Nat) (g : Int) (hf : f = 65 ∨ f = 120) (hg : g = 0 ∨ g = 1 ∨ g = 2) (w : World) :
    Calls Tryd.prog 27 #[.int .i32 f, I g] w fun e w' => e = .returned (S [letter f g]) ∧ w = w' := by
  rcases hf with rfl | rfl <;> rcases hg with rfl | rfl | rfl
  all_goals
    go_enter Tryd.func27, Tryd.ntmps27
    go_wp2
    go_ret
    exact ⟨by kernel_rfl, rfl⟩
end Go.Proofs.YtgohhcnmkomafaaDoor
/- Package prog walked. -/
namespace Go.Proofs.YtgohhcnmkomafaaDoor
set_option linter.unusedVariables false
set_option linter.unusedSimpArgs false
open Go.RowKit
abbrev PK (x : PNode) : Value := I x.kind
abbrev PS (x : PNode) : Value := I x.sig
/-- A list of nodes, as a slice. -/
abbrev SlN := Sl2 PK PS
theorem two_any (k : Int) (w : World) : Calls Tryd.prog 29 #[I k] w fun e w' => e = .returned (.bool (two k)) ∧ w = w' := by
  go_enter Tryd.func29, Tryd.ntmps29
  go_wp2
  go_ret; exact ⟨ret_bool rfl, rfl⟩
theorem wait_any (k : Int) (w : World) : Calls Tryd.prog 50 #[I k] w fun e w' => e = .returned (.bool (waitK k)) ∧ w = w' := by
  go_enter Tryd.func50, Tryd.ntmps50
  go_wp2
  all_goals go_ret
  all_goals exact ⟨ret_bool (by rw [Bool.eq_iff_iff]; simp_all [waitK]), rfl⟩
theorem signs_any (k : Int) (w : World) : Calls Tryd.prog 25 #[I k] w fun e w' => e = .returned (I (signsM k)) ∧ w = w' := by
  generalize hM : signsM k = M
  unfold signsM at hM
  have HM := Lib.hid hM; clear hM
  go_enter Tryd.func25, Tryd.ntmps25
  go_wp2
  all_goals go_ret
  all_goals exact ⟨ret_int (by rw [← HM.out]; simp_all), rfl⟩
theorem one_any (A : Option Addr) (n c : Nat) (p : List PNode) (k : Int) (w : World) (h : SlN w A n p) (hn : n ≤ 65536) (hk : k ≤ 65536) :
    Calls Tryd.prog 26 #[.slice A n c, I k] w fun e w' => e = .returned (I (oneM p k)) ∧ w = w' := by
  suffices HH : ∀ (d : Nat) (k : Int), (k < 0 ∨ (n : Int) - k ≤ d) → k ≤ 65536 → Calls Tryd.prog 26 #[.slice A n c, I k] w fun e w' => e = .returned (I (oneM p k)) ∧ w = w' by
    exact HH n k (by omega) hk
  clear hk k
  have hbase : ∀ k : Int, (k < 0 ∨ (n : Int) ≤ k) → k ≤ 65536 → Calls Tryd.prog 26 #[.slice A n c, I k] w fun e w' => e = .returned (I (oneM p k)) ∧ w = w' := by
    intro k hk hk'
    by_cases h0 : k < 0
    · rw [oneM_neg p h0]
      go_enter Tryd.func26, Tryd.ntmps26
      go_wp2
      go_ret; exact ⟨rfl, rfl⟩
    · have h1 : (n : Int) ≤ k := by omega
      rw [oneM_big p (by rw [h.1]; exact h1)]
      go_enter Tryd.func26, Tryd.ntmps26
      go_wp2
      go_ret; exact ⟨rfl, rfl⟩
  intro d
  induction d with
  | zero => exact fun k hk hk' => hbase k (by omega) hk'
  | succ d ih =>
    intro k hk hk'
    by_cases hb : k < 0 ∨ (n : Int) ≤ k
    · exact hbase k hb hk'
    clear hbase
    obtain ⟨k, rfl⟩ := Int.eq_ofNat_of_zero_le (show 0 ≤ k by omega)
    have hkn : k < n := by omega
    obtain ⟨b, off, x, rfl, hc, hc', hd, hx⟩ := h.next hkn
    have IH := Lib.hid ih; clear ih
    cases ht : two x.kind with
    | false =>
      have HM := Lib.hid (oneM_leaf hx ht)
      have HT := Lib.hid ht
      have H := Lib.hid h
      clear h ht hx hd
      go_enter Tryd.func26, Tryd.ntmps26
      go_wp2_with fail
      refine (two_any _ _).mono ?_; rintro e w' ⟨rfl, rfl⟩; rw [HT.out]
      go_wp2
      go_ret; exact ⟨ret_int HM.out.symm, rfl⟩
    | true =>
      have HM := Lib.hid (oneM_two hx ht)
      have hr := oneM_range p ((k : Int) + 1)
      rw [h.1] at hr
      generalize hq : oneM p ((k : Int) + 1) = q at hr
      have HQ := Lib.hid hq
      have HT := Lib.hid ht
      have H := Lib.hid h
      clear h ht hx hd hq
      go_enter Tryd.func26, Tryd.ntmps26
      go_wp2_with fail
      refine (two_any _ _).mono ?_; rintro e w' ⟨rfl, rfl⟩; rw [HT.out]
      go_wp2_with fail
      refine (IH.out _ (by omega) (by omega)).mono ?_; rintro e w' ⟨rfl, rfl⟩; rw [HQ.out]
      go_wp2_with fail
      refine (IH.out _ (by omega) (by omega)).mono ?_; rintro e w' ⟨rfl, rfl⟩
      go_wp2
      go_ret; exact ⟨ret_int (by rw [HM.out, HQ.out]), rfl⟩
set_option maxHeartbeats 2000000 in
theorem progCheck_any (A : Option Addr) (n c : Nat) (p : List PNode) (w : World) (h : SlN w A n p) (hn : n ≤ maxLen) :
    Calls Tryd.prog 10 #[.slice A n c] w fun e w' => e = .returned (I (checkP p)) ∧ Ext w w' := by
  have hn' := hn; unfold maxLen at hn'
  generalize hR : checkP p = R
  unfold checkP at hR
  rw [h.1] at hR
  by_cases hbig : 14 < n
  · rw [if_pos hbig] at hR
    subst hR
    go_enter Tryd.func10, Tryd.ntmps10
    go_wp2
    go_ret; exact ⟨rfl, Ext.refl _⟩
  rw [if_neg hbig] at hR
  have H := Lib.hid h; clear h
  have HR := Lib.hid hR; clear hR
  go_enter Tryd.func10, Tryd.ntmps10
  go_wp2
  go_loopw [4, 12] (fun _ i wr => ∃ (k : Nat), k ≤ n ∧ i = .int .i64 k ∧ Ext w wr ∧ (p.drop k).any badKind = p.any badKind) (fun _ i _ => n - (intOf i).toNat)
  case atStart => exact ⟨0, Nat.zero_le _, rfl, Ext.refl _, rfl⟩
  case round =>
    obtain ⟨k, hk, rfl, hext, hM⟩ := hrel
    by_cases hlt : k < n
    · obtain ⟨b, off, x, rfl, hc0, hc0', hd, hx⟩ := H.out.next hlt
      have hc := hext.keeps _ _ hc0
      have hc' := hext.keeps _ _ hc0'
      rw [hd, List.any_cons] at hM
      have HM := Lib.hid hM; clear hM hd hx hc0 hc0'
      by_cases hb : badKind x = true
      · have hb2 : x.kind < 0 ∨ 8 < x.kind := by simpa [badKind] using hb
        have HB : Hid (R = 4) := by unfold Hid; rw [← HR.out, ← HM.out, hb]; rfl
        clear hb
        rcases hb2 with g | g
        · go_wp2
          go_ret; exact ⟨ret_int HB.out.symm, hext.alloc _⟩
        · have g' : ¬ x.kind < 0 := by omega
          go_wp2
          go_ret; exact ⟨ret_int HB.out.symm, hext.alloc _⟩
      · have hb2 : ¬ x.kind < 0 ∧ ¬ 8 < x.kind := by simpa [badKind] using hb
        have HB : Hid (badKind x = false) := by unfold Hid; simpa using hb
        obtain ⟨g1, g2⟩ := hb2
        clear hb
        go_wp2
        go_roundw
        case rel => exact ⟨k + 1, by omega, by go_num, hext.alloc _, by rw [← HM.out, HB.out]; simp⟩
        case measure => simp [intOf]; omega
    · rw [H.out.drop_end hlt] at hM
      have HK : Hid (p.any badKind = false) := by unfold Hid; rw [← hM]; rfl
      have HR2 : Hid ((if p.any badSig = true then 3 else if oneM p 0 ≠ (n : Int) then 1 else 0) = R) := by unfold Hid; rw [← HR.out, HK.out]; rfl
      clear hM HR
      go_wp2
      go_loopw [6, 27] (fun _ i wr => ∃ (k : Nat), k ≤ n ∧ i = .int .i64 k ∧ Ext w wr ∧ (p.drop k).any badSig = p.any badSig) (fun _ i _ => n - (intOf i).toNat)
      case atStart => exact ⟨0, Nat.zero_le _, rfl, hext, rfl⟩
      case round =>
        obtain ⟨k', hk', rfl, hext', hM⟩ := hrel
        by_cases hlt' : k' < n
        · obtain ⟨b, off, x, rfl, hc0, hc0', hd, hx⟩ := H.out.next hlt'
          have hc := hext'.keeps _ _ hc0
          have hc' := hext'.keeps _ _ hc0'
          rw [hd, List.any_cons] at hM
          have HM := Lib.hid hM; clear hM hd hx hc0 hc0'
          by_cases hb : badSig x = true
          · have hb2 : x.sig < 0 ∨ signsM x.kind ≤ x.sig := by simpa [badSig] using hb
            have HB : Hid (R = 3) := by unfold Hid; rw [← HR2.out, ← HM.out, hb]; rfl
            clear hb
            by_cases g : x.sig < 0
            · clear hb2
              go_wp2_with fail
              go_quiet (fail)
              go_wp2
              go_ret; exact ⟨ret_int HB.out.symm, (hext'.alloc _).drewN _⟩
            · have g' : signsM x.kind ≤ x.sig := by omega
              have gd : decide (x.sig < 0) = false := by simpa using g
              clear hb2
              go_wp2_with fail
              go_quiet ((go_at_call 25; refine Calls.quiet_of_same ((signs_any _ _).mono fun e w' h => ⟨h.1, h.2.symm⟩)))
              go_wp2
              go_ret; exact ⟨ret_int HB.out.symm, (hext'.alloc _).drewN _⟩
          · have hb2 : ¬ x.sig < 0 ∧ ¬ signsM x.kind ≤ x.sig := by simpa [badSig] using hb
            have HB : Hid (badSig x = false) := by unfold Hid; simpa using hb
            obtain ⟨g, g'⟩ := hb2
            have gd : decide (x.sig < 0) = false := by simpa using g
            clear hb
            go_wp2_with fail
            go_quiet ((go_at_call 25; refine Calls.quiet_of_same ((signs_any _ _).mono fun e w' h => ⟨h.1, h.2.symm⟩)))
            go_wp2
            go_roundw
            case rel => exact ⟨k' + 1, by omega, by go_num, (hext'.alloc _).drewN _, by rw [← HM.out, HB.out]; simp⟩
            case measure => simp [intOf]; omega
        · rw [H.out.drop_end hlt'] at hM
          have HK2 : Hid (p.any badSig = false) := by unfold Hid; rw [← hM]; rfl
          have HR3 : Hid ((if oneM p 0 ≠ (n : Int) then 1 else 0) = R) := by unfold Hid; rw [← HR2.out, HK2.out]; rfl
          clear hM HR2
          generalize hq : oneM p 0 = q
          have HQ := Lib.hid hq; clear hq
          have HS := Lib.hid (H.out.keep hext'.keeps)
          by_cases hqn : q = n
          · have g : (q != (n : Int)) = false := by simpa using hqn
            have HN := Lib.hid hqn; clear hqn
            go_wp2_with fail
            refine (one_any A n c p 0 _ HS.out (by omega) (by omega)).mono ?_; rintro e w' ⟨rfl, rfl⟩; rw [HQ.out]
            go_wp2
            go_ret; exact ⟨ret_int (by rw [← HR3.out, HQ.out, HN.out]; simp), hext'⟩
          · have g : (q != (n : Int)) = true := by simpa using hqn
            have HN := Lib.hid hqn; clear hqn
            go_wp2_with fail
            refine (one_any A n c p 0 _ HS.out (by omega) (by omega)).mono ?_; rintro e w' ⟨rfl, rfl⟩; rw [HQ.out]
            go_wp2
            go_ret; exact ⟨ret_int (by rw [← HR3.out, HQ.out, if_pos HN.out]), hext'⟩
end Go.Proofs.YtgohhcnmkomafaaDoor
/- prog.Of, prog.Parts. -/
namespace Go.Proofs.YtgohhcnmkomafaaDoor
set_option linter.unusedVariables false
set_option linter.unusedSimpArgs false
open Go.RowKit
theorem progOf_any (A : Option Addr) (n c : Nat) (p : List PNode) (k : Nat) (w : World) (h : SlN w A n p) (hn : n ≤ 60000) (hk : k < n) :
    Calls Tryd.prog 28 #[.slice A n c, I k] w fun e w' => e = .returned (Pr3 (I (ofP p k).1) (I (ofP p k).2.1) (I (ofP p k).2.2)) ∧ w = w' := by
  obtain ⟨b, off, x, rfl, hc, hc', hd, hx⟩ := h.next hk
  generalize hR : ofP p k = R
  unfold ofP at hR
  rw [hx] at hR
  have H := Lib.hid h
  have HR := Lib.hid hR
  clear h hx hd hR
  cases ht : two x.kind
  all_goals
    have HT := Lib.hid ht; clear ht
    go_enter Tryd.func28, Tryd.ntmps28
    go_wp2_with fail
    refine (two_any _ _).mono ?_; rintro e w' ⟨rfl, rfl⟩; rw [HT.out]
    go_wp2_with (go_at_call 26; with_reducible refine (one_any _ n c p _ w H.out (by omega) (by omega)).mono ?_; rintro e w' ⟨rfl, rfl⟩)
    go_ret3
    exact ⟨by rw [← HR.out]; simp only [HT.out]; rfl, rfl⟩
end Go.Proofs.YtgohhcnmkomafaaDoor
/- prog.Waits. -/
namespace Go.Proofs.YtgohhcnmkomafaaDoor
set_option linter.unusedVariables false
set_option linter.unusedSimpArgs false
open Go.RowKit
theorem tab_bool : (Tryd.prog.info? 4).map (fun i => (i.zero, i.size, i.bytes)) = some (some (.bool false), 1, 1) := by kernel_rfl
end Go.Proofs.YtgohhcnmkomafaaDoor
/- SameBools, SameInts: are two lists the same. -/
namespace Go.Proofs.YtgohhcnmkomafaaDoor
set_option linter.unusedVariables false
set_option linter.unusedSimpArgs false
open Go.RowKit
end Go.Proofs.YtgohhcnmkomafaaDoor
/- The reference's calls on programs, walked. -/
namespace Go.Proofs.YtgohhcnmkomafaaDoor
set_option linter.unusedVariables false
set_option linter.unusedSimpArgs false
open Go.RowKit
end Go.Proofs.YtgohhcnmkomafaaDoor
/- A program's text, by the reference. -/
namespace Go.Proofs.YtgohhcnmkomafaaDoor
set_option linter.unusedVariables false
set_option linter.unusedSimpArgs false
open Go.RowKit
theorem str_app (a b : List UInt8) : (⟨a.toArray⟩ : ByteArray) ++ ⟨b.toArray⟩ = ⟨(a ++ b).toArray⟩ := by
  apply ByteArray.ext
  simp [ByteArray.data_append]
end Go.Proofs.YtgohhcnmkomafaaDoor
