/- Aids for a row's closed facts in a large translation: piece by piece, and 'recurses' by one witness. -/
import Derived.Test.YtlafiddfplhafaaChecked
import Derived.ProofKit
import Derived.WalkKit
import Derived.WalkLawsBesides
import Derived.WalkSpells
import Derived.Deep.QuietTactic
import Derived.BigQuiet
import Derived.Lib.Hide
import Derived.Deep.LoopGhost
import Derived.Deep.Draws
import Derived.Laws.OwnMore
import Derived.Deep.AppendLies
import Derived.Laws.Rows
import Derived.Deep.Slices
import Derived.Deep.Fields
import Derived.ChangeSame
import Derived.OpenShut
import Derived.SizedLaws
import Derived.Lib.SmallJoins
namespace Go.Proofs.Ytlafiddfplhafaa
set_option linter.unusedVariables false
set_option linter.unusedSimpArgs false
set_option linter.unusedVariables false
set_option linter.unusedSimpArgs false
theorem band {a b : Bool} (h : a = true) (k : b = true) : (a && b) = true := by rw [h, k]; rfl
end Go.Proofs.Ytlafiddfplhafaa
/- The head of the translation: which words it opens with, and the facts of each row that hang on them. -/
namespace Go.Proofs.Ytlafiddfplhafaa
set_option linter.unusedVariables false
set_option linter.unusedSimpArgs false
def headH : List Nat := [104, 97, 114, 110, 101, 115, 115]
def headS : List Nat := [50, 102, 53, 55, 101, 54, 55, 53, 51, 53, 102, 101, 97, 54, 55, 102, 54, 49, 99, 53, 102, 48, 55, 102, 98, 53, 99, 102, 54, 52, 54, 99, 50, 97, 54, 51, 100, 49, 48, 97, 101, 97, 97, 56, 97, 50, 50, 52, 98, 100, 54, 97, 53, 57, 48, 98, 100, 53, 101, 99, 53, 98, 52, 51]
def headC : List Nat := [99, 117, 116]
def headR : List Nat := [97, 116, 32, 108, 105, 110, 99, 104, 112, 105, 110, 47, 108, 105, 110, 99, 104, 112, 105, 110, 108, 97, 119, 46, 70, 111, 114, 103, 101, 82, 117, 110, 115, 32, 108, 105, 110, 99, 104, 112, 105, 110, 47, 108, 105, 110, 99, 104, 112, 105, 110, 108, 97, 119, 46, 70, 111, 114, 103, 101, 83, 97, 109, 101, 32, 108, 105, 110, 99, 104, 112, 105, 110, 47, 108, 105, 110, 99, 104, 112, 105, 110, 108, 97, 119, 46, 70, 111, 114, 103, 101, 71, 111, 111, 100, 32, 108, 105, 110, 99, 104, 112, 105, 110, 47, 108, 105, 110, 99, 104, 112, 105, 110, 108, 97, 119, 46, 70, 111, 114, 103, 101, 83, 119, 101, 112, 116]
def headAll : List Nat := headH ++ 32 :: (headS ++ 32 :: (headC ++ 32 :: headR))
theorem head_is : Try.prog.initOrder = String.ofList (headAll.map Char.ofNat) := by kernel_rfl
theorem words_cons (a b : List Char) (h : a.all (fun c => c != Char.ofNat 32) = true) : wordsSigns (a ++ Char.ofNat 32 :: b) = a :: wordsSigns b := by
  induction a with
  | nil => rfl
  | cons c a ih =>
    simp only [List.all_cons, Bool.and_eq_true, bne_iff_ne] at h
    have hc : c ≠ Char.ofNat 32 := h.1
    have e : wordsSigns (c :: (a ++ Char.ofNat 32 :: b)) = (match wordsSigns (a ++ Char.ofNat 32 :: b) with | w :: ws => (c :: w) :: ws | [] => [[c]]) := by
      rw [wordsSigns] <;> first | rfl | (intro e; exact hc e) | exact hc
    rw [List.cons_append, e, ih h.2]
theorem head_words : wordsSigns Try.prog.initOrder.toList = headH.map Char.ofNat :: headS.map Char.ofNat :: headC.map Char.ofNat :: wordsSigns (headR.map Char.ofNat) := by
  rw [head_is, String.toList_ofList]
  unfold headAll
  simp only [List.map_append, List.map_cons]
  rw [words_cons _ _ (by decide +kernel), words_cons _ _ (by decide +kernel), words_cons _ _ (by decide +kernel)]
theorem head_behind : behindMainWord (wordsSigns Try.prog.initOrder.toList) = headC.map Char.ofNat :: wordsSigns (headR.map Char.ofNat) := by
  rw [head_words]
  simp only [behindMainWord]
  rw [if_pos (by decide +kernel)]
theorem head_cut : behindMainWord (wordsSigns Try.prog.initOrder.toList) = "cut".toList :: wordsSigns (headR.map Char.ofNat) := by
  rw [head_behind]; congr 1
theorem strip_cut (R : List (List Char)) : stripLifts liftWords ("cut".toList :: R) = ([], "cut".toList :: R) := by rfl
theorem later : Try.prog.laysLater = false := by kernel_rfl
theorem reflects : Try.prog.bearsReflect = false := by kernel_rfl
theorem doors : Try.prog.doorFits [] = true := by kernel_rfl
theorem mayEnter_of {P : Program} {R : List (List Char)} (h : behindMainWord (wordsSigns P.initOrder.toList) = "cut".toList :: R) (h1 : P.laysLater = false) (h2 : P.bearsReflect = false) (h3 : P.doorFits [] = true) : P.mayEnter = true := by
  unfold Program.mayEnter
  rw [h]
  simp only [strip_cut, h1, h2, h3]
  simp
theorem liftsFinal_of {P : Program} {R : List (List Char)} (h : behindMainWord (wordsSigns P.initOrder.toList) = "cut".toList :: R) : P.liftsFinal = false := by
  unfold Program.liftsFinal Program.headLifts
  rw [h]
  simp only [strip_cut]
  simp
theorem make_of {P : Program} {R : List (List Char)} (h : behindMainWord (wordsSigns P.initOrder.toList) = "cut".toList :: R) : P.make = some .cut := by
  unfold Program.make
  rw [h]
  simp
theorem may_enter : Try.prog.mayEnter = true := mayEnter_of head_cut later reflects doors
theorem lifts_final : Try.prog.liftsFinal = false := liftsFinal_of head_cut
theorem make_cut : Try.prog.make = some .cut := make_of head_cut
end Go.Proofs.Ytlafiddfplhafaa
/- Words on memory that all walks of this seat share: a slice that reads as a list, worlds that keep what was there. No program in sight. -/
namespace Go.Proofs.Ytlafiddfplhafaa
set_option linter.unusedVariables false
set_option linter.unusedSimpArgs false
open Go.RowKit
abbrev I (n : Int) : Value := .int .i64 n
/-- What is a cell stays the same cell. -/
def Keeps (w w' : World) : Prop := ∀ p u, w.cell? p = some u → w'.cell? p = some u
theorem Keeps.refl (w : World) : Keeps w w := fun _ _ h => h
theorem Keeps.trans {a b c : World} (h : Keeps a b) (k : Keeps b c) : Keeps a c := fun p u e => k p u (h p u e)
theorem lt_of_cell {w : World} {p : Addr} {u : Value} (h : w.cell? p = some u) : p.block < w.heap.size := by
  unfold World.cell? at h
  rcases Nat.lt_or_ge p.block w.heap.size with hl | hl
  · exact hl
  · rw [Array.getElem?_eq_none hl] at h; cases h
theorem Keeps.of_below {w w' : World} (h : Below w.heap.size w w') : Keeps w w' := fun p u e => (h.cell (lt_of_cell e)).trans e
theorem Keeps.drewN (w : World) (n : Nat) : Keeps w (w.drewN n) := fun _ _ h => h
theorem Keeps.drew (w : World) : Keeps w w.drew := fun _ _ h => h
theorem Keeps.alloc (w : World) (o : Obj) : Keeps w (w.alloc o) := fun p u e => (World.cell?_alloc_lt w o p (lt_of_cell e)).trans e
theorem below_drewN' {B : Nat} {a w : World} (h : Below B a w) (n : Nat) : Below B a (w.drewN n) := ⟨h.os, h.tape, h.output, h.size, h.block⟩
/-- All that was there is as it was; new memory may have come. -/
def Ext (w w' : World) : Prop := Below w.heap.size w w'
section
variable {a b c : World}
theorem Ext.refl (w : World) : Ext w w := Below.refl _ _
theorem Ext.size (h : Ext a b) : a.heap.size ≤ b.heap.size := Below.size h
theorem Ext.trans (h : Ext a b) (k : Ext b c) : Ext a c := Below.trans h (Below.mono k (Below.size h))
theorem Ext.alloc (h : Ext a b) (o : Obj) : Ext a (b.alloc o) := Below.alloc h (Below.size h) o
theorem Ext.drewN (h : Ext a b) (n : Nat) : Ext a (b.drewN n) := below_drewN' h n
theorem Ext.drew (h : Ext a b) : Ext a b.drew := below_drewN' h 1
theorem Ext.setCell (h : Ext a b) {p : Addr} (hp : a.heap.size ≤ p.block) (v : Value) : Ext a (b.setCell p v) := Below.setCell h hp v
theorem Ext.keeps (h : Ext a b) : Keeps a b := Keeps.of_below h
end
/-- A slice's head, n places of one cell each, that reads cs. -/
def Sl (w : World) (A : Option Addr) (n : Nat) (cs : List Value) : Prop :=
  cs.length = n ∧ ∀ k u, cs[k]? = some u → ∃ b off, A = some ⟨b, off, none⟩ ∧ w.cell? ⟨b, off + k, none⟩ = some u
section
variable {w w' : World} {A : Option Addr} {n : Nat} {cs : List Value}
theorem Sl.keep (h : Sl w A n cs) (hk : Keeps w w') : Sl w' A n cs :=
  ⟨h.1, fun k u hu => let ⟨b, o, e, hc⟩ := h.2 k u hu; ⟨b, o, e, hk _ _ hc⟩⟩
theorem Sl.nil (w : World) (A : Option Addr) : Sl w A 0 [] := ⟨rfl, fun k u h => by simp at h⟩
theorem Sl.len {α : Type} {f : α → Value} {xs : List α} (h : Sl w A n (xs.map f)) : xs.length = n := by simpa using h.1
theorem Sl.at_ {α : Type} {f : α → Value} {xs : List α} (h : Sl w A n (xs.map f)) {k : Nat} (hk : k < n) :
    ∃ b off x, A = some ⟨b, off, none⟩ ∧ w.cell? ⟨b, off + k, none⟩ = some (f x) ∧ xs[k]? = some x := by
  have hl : k < xs.length := by have := h.len; omega
  obtain ⟨b, off, e, hc⟩ := h.2 k (f xs[k]) (by simp [List.getElem?_eq_getElem hl])
  exact ⟨b, off, xs[k], e, hc, List.getElem?_eq_getElem hl⟩
theorem Sl.next {α : Type} {f : α → Value} {xs : List α} (h : Sl w A n (xs.map f)) {k : Nat} (hk : k < n) :
    ∃ b off x, A = some ⟨b, off, none⟩ ∧ w.cell? ⟨b, off + k, none⟩ = some (f x) ∧ xs.drop k = x :: xs.drop (k + 1) := by
  have hl : k < xs.length := by have := h.len; omega
  obtain ⟨b, off, e, hc⟩ := h.2 k (f xs[k]) (by simp [List.getElem?_eq_getElem hl])
  exact ⟨b, off, xs[k], e, hc, List.drop_eq_getElem_cons hl⟩
theorem Sl.drop_end {α : Type} {f : α → Value} {xs : List α} (h : Sl w A n (xs.map f)) {k : Nat} (hk : ¬ k < n) : xs.drop k = [] := by
  have := h.len; exact List.drop_eq_nil_of_le (by omega)
end
theorem add_plain' (b o k : Nat) : (⟨b, o, none⟩ : Addr).add k = ⟨b, o + k, none⟩ := by unfold Addr.add; split <;> simp_all
theorem spot_none {w : World} {a : Addr} {k : Nat} {u : Value} (h : w.cell? (a.add k) = some u) (hk : k = 0) : a.spot = none := by
  subst hk
  obtain ⟨b, o, s⟩ := a
  cases s with
  | none => rfl
  | some x => simp [Addr.add, World.cell?] at h; split at h <;> simp at h
theorem add_zero (b k : Nat) : (⟨b, 0, none⟩ : Addr).add k = ⟨b, k, none⟩ := by unfold Addr.add; split <;> simp_all
theorem Sl.new (w : World) (cs : List Value) (T : TypeId) : Sl (w.alloc (.cells cs.toArray T)) (some ⟨w.heap.size, 0, none⟩) cs.length cs :=
  ⟨rfl, fun k u hu => ⟨_, _, rfl, by rw [World.cell?_alloc_new]; simpa using hu⟩⟩
theorem Sl.newAt (w : World) (b : Nat) (cs : List Value) (T : TypeId) (hb : b = w.heap.size) : Sl (w.alloc (.cells cs.toArray T)) (some ⟨b, 0, none⟩) cs.length cs := by
  subst hb; exact Sl.new w cs T
/-! rows that the call itself made -/
theorem own_ext {w w' : World} {base : Nat} {e : TypeId} {size n : Nat} {v : Value} {xs : List Value} (h : w.ownsRow base e size v n xs) (hx : Ext w w') : w'.ownsRow base e size v n xs := by
  rcases h with ⟨hl, ⟨rfl, rfl⟩ | ⟨g, cap, cur, rfl, hg, hh, r⟩⟩
  · exact ⟨hl, .inl ⟨rfl, rfl⟩⟩
  · refine ⟨hl, .inr ⟨g, cap, cur, rfl, hg, ?_, r⟩⟩
    have hlt : g < w.heap.size := by
      rcases Nat.lt_or_ge g w.heap.size with h | h
      · exact h
      · rw [Array.getElem?_eq_none h] at hh; cases hh
    exact (hx.block g hlt).trans hh
theorem own_base {w : World} {base base' : Nat} {e : TypeId} {size n : Nat} {v : Value} {xs : List Value} (h : w.ownsRow base e size v n xs) (hb : base' ≤ base) : w.ownsRow base' e size v n xs := by
  rcases h with ⟨hl, h | ⟨g, cap, cur, hv, hg, r⟩⟩
  · exact ⟨hl, .inl h⟩
  · exact ⟨hl, .inr ⟨g, cap, cur, hv, by omega, r⟩⟩
theorem own_slice {w : World} {base : Nat} {e : TypeId} {size n : Nat} {v : Value} {xs : List Value} (h : w.ownsRow base e size v n xs) :
    ∃ A c, v = .slice A n c ∧ n ≤ c ∧ c ≤ maxLen ∧ ∀ k u, xs[k]? = some u → ∃ b off, A = some ⟨b, off, none⟩ ∧ w.cell? ⟨b, off + k, none⟩ = some u := by
  have h' := h
  rcases h with ⟨hl, ⟨rfl, rfl⟩ | ⟨g, cap, cur, rfl, hg, hh, hnc, hm, r⟩⟩
  · refine ⟨none, 0, rfl, Nat.le_refl _, Nat.zero_le _, fun k u hu => ?_⟩
    have : xs = [] := List.eq_nil_of_length_eq_zero (by simpa using hl)
    subst this; simp at hu
  · exact ⟨_, _, rfl, hnc, hm, fun k u hu => ⟨_, _, rfl, by have := h'.cells rfl k u hu; rwa [add_plain'] at this⟩⟩
theorem own_sl {w : World} {base : Nat} {e : TypeId} {n : Nat} {v : Value} {xs : List Value} (h : w.ownsRow base e 1 v n xs) : ∃ A c, v = .slice A n c ∧ n ≤ c ∧ c ≤ maxLen ∧ Sl w A n xs := by
  obtain ⟨A, c, hv, h1, h2, hc⟩ := own_slice h
  exact ⟨A, c, hv, h1, h2, by have := h.1; omega, hc⟩
/-- append of one element onto a row of the call's own, behind the store of the element into its new block. -/
theorem wpList_push {P : Program} {ops : Array Oper} {rest : List Oper} {o : Oper} {a : Act} {Q : Exit → Act → World → Prop} {w : World} (hgd : o.guard = none) (s x : Operand) (t e : TypeId)
    (ho : o.op = .call { callee := .builtin .append, args := #[s, x], argTypes := #[t, t] })
    {z : Value} {size bytes : Nat} (tab : (P.info? e).map (fun i => (i.zero, i.size, i.bytes)) = some (some z, size, bytes)) (ht : P.underlying t = some (.slice e)) (hzs : z.cells.size = size) (hsz : 0 < size)
    (W0 w0 : World) (hext : Ext W0 w0) (v : Value) (n : Nat) (xs : List Value) (hs : a.eval s = v) (hown : w0.ownsRow W0.heap.size e size v n xs)
    (news : List Value) (hl : news.length = size) (hw : w = w0.alloc (.cells news.toArray e)) (hx : a.eval x = .slice (some ⟨w0.heap.size, 0, none⟩) 1 1) (h1 : ∀ u ∈ news, u.oneCell' = true)
    (h63 : n + 1 ≤ maxLen) (hbytes : (n + 1) * bytes ≤ 140737488355328)
    (h : ∀ v' w', w'.ownsRow W0.heap.size e size v' (n + 1) (xs ++ news) → Ext W0 w' → w0.grownBy w' v.ownBlock → wpList P ops Q rest (a.put o.dst v') w') : wpList P ops Q (o :: rest) a w := by
  subst hw
  obtain ⟨i, hi, hz, hs1, hs2⟩ := info_parts tab
  refine wpList_append_own _ hgd s x t ho W0.heap.size e i z size bytes ht hi hz hs1 hs2 hzs hsz v n xs hs (hown.alloc _) ⟨w0.heap.size, 0, none⟩ 1 1 news hx (by omega) (fun j u hu => ?_) h1 h63 hbytes (Nat.le_trans hext.size (by simp)) ?_
  · rw [add_zero, World.cell?_alloc_new]; simpa using hu
  · intro v' w' hown' hg _
    refine h v' w' hown' (Below.grown (hext.alloc _) hg (Nat.le_trans hext.size (by simp)) (fun k hk => (hown.lt k hk).1)) ?_
    exact ⟨hg.os, hg.tape, hg.output, Nat.le_trans (by simp) hg.size, fun k hk hne => (hg.block k (by simp; omega) hne).trans (Below.heap_alloc w0 _ k hk)⟩
theorem ret_int {k : IntKind} {a b : Int} (h : a = b) : Ending.returned (.int k a) = .returned (.int k b) := by rw [h]
theorem ret_bool {a b : Bool} (h : a = b) : Ending.returned (.bool a) = .returned (.bool b) := by rw [h]
/-- A pair that a call hands back. -/
abbrev Pr (a b : Value) : Value := .tuple #[a, b]
/-- A slice of structs of two cells (or any pair of cells): the reading of place k is f of the k-th element. -/
def Sl2 {α : Type} (f g : α → Value) (w : World) (A : Option Addr) (n : Nat) (xs : List α) : Prop :=
  xs.length = n ∧ ∀ k x, xs[k]? = some x → ∃ b off, A = some ⟨b, off, none⟩ ∧ w.cell? ⟨b, off + k * 2, none⟩ = some (f x) ∧ w.cell? ⟨b, off + k * 2 + 1, none⟩ = some (g x)
section
variable {α : Type} {f g : α → Value} {w w' : World} {A : Option Addr} {n : Nat} {xs : List α}
theorem Sl2.keep (h : Sl2 f g w A n xs) (hk : Keeps w w') : Sl2 f g w' A n xs :=
  ⟨h.1, fun k u hu => let ⟨b, o, e, hc, hd⟩ := h.2 k u hu; ⟨b, o, e, hk _ _ hc, hk _ _ hd⟩⟩
theorem Sl2.nil (f g : α → Value) (w : World) (A : Option Addr) : Sl2 f g w A 0 [] := ⟨rfl, fun k u h => by simp at h⟩
theorem Sl2.next (h : Sl2 f g w A n xs) {k : Nat} (hk : k < n) :
    ∃ b off x, A = some ⟨b, off, none⟩ ∧ w.cell? ⟨b, off + k * 2, none⟩ = some (f x) ∧ w.cell? ⟨b, off + k * 2 + 1, none⟩ = some (g x) ∧ xs.drop k = x :: xs.drop (k + 1) ∧ xs[k]? = some x := by
  have hl : k < xs.length := by have := h.1; omega
  obtain ⟨b, off, e, hc, hd⟩ := h.2 k xs[k] (List.getElem?_eq_getElem hl)
  exact ⟨b, off, xs[k], e, hc, hd, List.drop_eq_getElem_cons hl, List.getElem?_eq_getElem hl⟩
theorem Sl2.drop_end (h : Sl2 f g w A n xs) {k : Nat} (hk : ¬ k < n) : xs.drop k = [] := by
  have := h.1; exact List.drop_eq_nil_of_le (by omega)
end
abbrev Bv (b : Bool) : Value := .bool b
abbrev Pr3 (a b c : Value) : Value := .tuple #[a, b, c]
/-- The new row of a make: n times z. -/
def zeros (z : Value) (n : Nat) : Array Value := madeCells #[z] n
theorem run_make1 {P : Program} (t e : TypeId) {z : Value} {bytes : Nat} (tab : (P.info? e).map (fun i => (i.zero, i.size, i.bytes)) = some (some z, 1, bytes)) (ht : P.underlying t = some (.slice e)) (hz1 : z.cells = #[z])
    (n : Nat) (hb : bytes * n ≤ 281474976710656) (h63 : n ≤ 9223372036854775807) (w : World) :
    (Instr.makeSlice t (.int .i64 (n : Int)) (.int .i64 (n : Int))).run P w = .ok (.slice (some ⟨w.heap.size, 0, none⟩) n n) (w.alloc (.cells (zeros z n) e)) := by
  obtain ⟨i, hi, hz, hs1, hs2⟩ := info_parts tab
  have hb' : (i.bytes : Int) * (n : Int) ≤ 281474976710656 := by
    rw [hs2]
    have h : ((bytes * n : Nat) : Int) ≤ 281474976710656 := by omega
    rwa [Int.natCast_mul] at h
  have hr := run_make (P := P) w t e i z ht hi hz .i64 .i64 n n (by omega) (by omega) hb' (by omega)
  simp only [Int.toNat_natCast, hs1, hz1, Nat.mul_one] at hr
  exact hr
theorem own_made (w : World) (e : TypeId) (z : Value) (n base : Nat) (hb : base ≤ w.heap.size) (hm : n ≤ maxLen) :
    (w.alloc (.cells (zeros z n) e)).ownsRow base e 1 (.slice (some ⟨w.heap.size, 0, none⟩) n n) n (List.replicate n z) := by
  refine ⟨by simp, .inr ⟨w.heap.size, n, zeros z n, rfl, hb, heap_alloc_new w _, Nat.le_refl _, hm, by simp [zeros, size_madeCells], ?_⟩⟩
  rw [zeros, toList_madeCells_one, Nat.mul_one, List.take_of_length_le (by simp)]
/-- A place of an own row: its cell, and that it may be written. -/
theorem own_at {w : World} {base : Nat} {e : TypeId} {g n c : Nat} {xs : List Value} (h : w.ownsRow base e 1 (.slice (some ⟨g, 0, none⟩) n c) n xs) {k : Nat} (hk : k < n) :
    (∃ u, xs[k]? = some u ∧ w.cell? ⟨g, k, none⟩ = some u) ∧ w.frozen? ⟨g, k, none⟩ = false ∧ base ≤ g := by
  have hl : k < xs.length := by have := h.1; omega
  refine ⟨⟨xs[k], List.getElem?_eq_getElem hl, ?_⟩, h.frozenAt k, (h.lt g rfl).1⟩
  rw [h.cellAt k (by omega), List.getElem?_eq_getElem hl]
theorem own_form {w : World} {base : Nat} {e : TypeId} {size n : Nat} {v : Value} {xs : List Value} (h : w.ownsRow base e size v n xs) (hn : 0 < n) : ∃ g c, v = .slice (some ⟨g, 0, none⟩) n c := by
  rcases h.2 with ⟨_, h0⟩ | ⟨g, cap, cur, hv, _⟩
  · omega
  · exact ⟨g, cap, hv⟩
theorem flat2_get {α : Type} (f g : α → Value) (xs : List α) : ∀ k, (xs.flatMap fun x => [f x, g x])[k * 2]? = xs[k]?.map f ∧ (xs.flatMap fun x => [f x, g x])[k * 2 + 1]? = xs[k]?.map g := by
  induction xs with
  | nil => intro k; simp
  | cons x xs ih =>
    intro k
    cases k with
    | zero => simp
    | succ k =>
      have := ih k
      rw [show (k + 1) * 2 = k * 2 + 2 from by omega]
      simpa using this
theorem Sl2.newAt {α : Type} (f g : α → Value) (w : World) (b : Nat) (xs : List α) (cs : Array Value) (T : TypeId) (hb : b = w.heap.size) (hcs : cs = (xs.flatMap fun x => [f x, g x]).toArray) : Sl2 f g (w.alloc (.cells cs T)) (some ⟨b, 0, none⟩) xs.length xs := by
  subst hb; subst hcs
  refine ⟨rfl, fun k x hx => ⟨_, _, rfl, ?_, ?_⟩⟩
  · rw [World.cell?_alloc_new, Nat.zero_add]; simp only [List.getElem?_toArray]; rw [(flat2_get f g xs k).1, hx]; rfl
  · rw [World.cell?_alloc_new, Nat.zero_add]; simp only [List.getElem?_toArray]; rw [(flat2_get f g xs k).2, hx]; rfl
theorem Sl2.sub {α : Type} {f g : α → Value} {w : World} {b off n : Nat} {xs : List α} (h : Sl2 f g w (some ⟨b, off, none⟩) n xs) (lo m : Nat) (hm : lo + m ≤ n) :
    Sl2 f g w (some ⟨b, off + lo * 2, none⟩) m ((xs.drop lo).take m) := by
  refine ⟨by have := h.1; simp; omega, fun k x hx => ?_⟩
  rw [List.getElem?_take] at hx
  split at hx
  · rw [List.getElem?_drop] at hx
    obtain ⟨b', off', e, h1, h2⟩ := h.2 _ _ hx
    injection e with e; injection e with e1 e2
    subst e1; subst e2
    exact ⟨_, _, rfl, by rw [show off + lo * 2 + k * 2 = off + (lo + k) * 2 from by omega]; exact h1, by rw [show off + lo * 2 + k * 2 + 1 = off + (lo + k) * 2 + 1 from by omega]; exact h2⟩
  · cases hx
theorem append_of_nil {P : Program} (w : World) (base : Nat) (t ty e : TypeId) (i : TypeInfo) (size : Nat) (ht : P.underlying t = some (.slice e)) (hi : P.info? e = some i)
    (v : Value) (n : Nat) (xs : List Value) (hown : w.ownsRow base e size v n xs) (c : Nat) : (Builtin.append_ #[t, t] ty #[v, .slice none 0 c]).run P w = .ok v w := by
  rcases hown.2 with ⟨rfl, rfl⟩ | ⟨g, cap, cur, rfl, _, _, hnc, _⟩
  · simp [Builtin.append_, run_underlying ht, sizeOf, typeInfo, hi, Builtin.lenOf, Builtin.firstCells]
  · simp [Builtin.append_, run_underlying ht, sizeOf, typeInfo, hi, Builtin.lenOf, Builtin.firstCells, hnc, storeCells]
/-- append of all of a slice of one-cell elements onto a row of the call's own. -/
theorem wpList_appendAll {P : Program} {ops : Array Oper} {rest : List Oper} {o : Oper} {a : Act} {Q : Exit → Act → World → Prop} {w : World} (hgd : o.guard = none) (s x : Operand) (t e : TypeId)
    (ho : o.op = .call { callee := .builtin .append, args := #[s, x], argTypes := #[t, t] })
    {z : Value} {bytes : Nat} (tab : (P.info? e).map (fun i => (i.zero, i.size, i.bytes)) = some (some z, 1, bytes)) (ht : P.underlying t = some (.slice e)) (hzs : z.cells.size = 1)
    (W0 : World) (hext : Ext W0 w) (v : Value) (n : Nat) (xs : List Value) (hs : a.eval s = v) (hown : w.ownsRow W0.heap.size e 1 v n xs)
    (A : Option Addr) (m c : Nat) (news : List Value) (hx : a.eval x = .slice A m c) (hr : Sl w A m news) (h1 : ∀ u ∈ news, u.oneCell' = true)
    (h63 : n + m ≤ maxLen) (hbytes : (n + m) * bytes ≤ 140737488355328)
    (h : ∀ v' w', w'.ownsRow W0.heap.size e 1 v' (n + m) (xs ++ news) → Ext W0 w' → w.grownBy w' v.ownBlock → wpList P ops Q rest (a.put o.dst v') w') : wpList P ops Q (o :: rest) a w := by
  obtain ⟨i, hi, hz, hs1, hs2⟩ := info_parts tab
  have hb : ∀ k, v.ownBlock = some k → W0.heap.size ≤ k := fun k hk => (hown.lt k hk).1
  cases A with
  | none =>
    have hm : m = 0 := by
      rcases Nat.eq_zero_or_pos m with e | e
      · exact e
      · have hl : 0 < news.length := by rw [hr.1]; exact e
        obtain ⟨b, off, e2, _⟩ := hr.2 0 _ (List.getElem?_eq_getElem hl)
        cases e2
    subst hm
    have hn : news = [] := List.eq_nil_of_length_eq_zero hr.1
    subst hn
    refine wpList_plain hgd fun K hK => ?_
    unfold Oper.wp execOp
    simp only [ho, resolve, invoke, builtin, Sem.run_bind, Sem.run_pure, Result.andThen_ok, List.map_toArray, List.map_cons, List.map_nil, hs, hx, append_of_nil (P := P) w W0.heap.size t o.type e i 1 ht hi v n xs hown c]
    exact hK _ _ (h v w (by simpa using hown) hext (World.grownBy.refl w _))
  | some ad =>
    have hcells : ∀ j u, news[j]? = some u → w.cell? (ad.add j) = some u := by
      intro j u hu
      obtain ⟨b, off, e2, hc⟩ := hr.2 j u hu
      injection e2 with e2
      subst e2
      rw [add_plain']; exact hc
    refine wpList_append_own _ hgd s x t ho W0.heap.size e i z 1 bytes ht hi hz hs1 hs2 hzs (by omega) v n xs hs hown ad m c news hx (by have := hr.1; omega) hcells h1 h63 hbytes hext.size ?_
    intro v' w' hown' hg _
    exact h v' w' hown' (Below.grown hext hg hext.size hb) hg
theorem own_empty (w : World) (e : TypeId) (size base : Nat) (hb : base ≤ w.heap.size) : (w.alloc (.cells #[] e)).ownsRow base e size (.slice (some ⟨w.heap.size, 0, none⟩) 0 0) 0 [] :=
  World.ownsRow_made w #[] 0 hb (Nat.zero_le _) (by simp)
/-- wpList_push where the element's new block is named by its number. -/
theorem wpList_pushB {P : Program} {ops : Array Oper} {rest : List Oper} {o : Oper} {a : Act} {Q : Exit → Act → World → Prop} {w : World} (hgd : o.guard = none) (s x : Operand) (t e : TypeId)
    (ho : o.op = .call { callee := .builtin .append, args := #[s, x], argTypes := #[t, t] })
    {z : Value} {size bytes : Nat} (tab : (P.info? e).map (fun i => (i.zero, i.size, i.bytes)) = some (some z, size, bytes)) (ht : P.underlying t = some (.slice e)) (hzs : z.cells.size = size) (hsz : 0 < size)
    (W0 w0 : World) (hext : Ext W0 w0) (v : Value) (n : Nat) (xs : List Value) (hs : a.eval s = v) (hown : w0.ownsRow W0.heap.size e size v n xs)
    (news : List Value) (hl : news.length = size) (hw : w = w0.alloc (.cells news.toArray e)) (B : Nat) (hx : a.eval x = .slice (some ⟨B, 0, none⟩) 1 1) (hB : B = w0.heap.size) (h1 : ∀ u ∈ news, u.oneCell' = true)
    (h63 : n + 1 ≤ maxLen) (hbytes : (n + 1) * bytes ≤ 140737488355328)
    (h : ∀ v' w', w'.ownsRow W0.heap.size e size v' (n + 1) (xs ++ news) → Ext W0 w' → w0.grownBy w' v.ownBlock → wpList P ops Q rest (a.put o.dst v') w') : wpList P ops Q (o :: rest) a w :=
  wpList_push hgd s x t e ho tab ht hzs hsz W0 w0 hext v n xs hs hown news hl hw (by rw [hx, hB]) h1 h63 hbytes h
end Go.Proofs.Ytlafiddfplhafaa
/- Programs, in plain Lean. No Go in sight. -/
namespace Go.Proofs.Ytlafiddfplhafaa
set_option linter.unusedVariables false
set_option linter.unusedSimpArgs false
structure PNode where
  kind : Int
  sig : Int
  deriving DecidableEq
def two (k : Int) : Bool := decide (5 ≤ k)
/-- What is left of a list behind n programs. -/
def skipN : Nat → List PNode → Option (List PNode)
  | 0, l => some l
  | _ + 1, [] => none
  | n + 1, x :: l => skipN (if two x.kind then n + 2 else n) l
theorem skipN_zero (l : List PNode) : skipN 0 l = some l := by cases l <;> rfl
theorem skipN_add (l : List PNode) : ∀ a b, skipN (a + b) l = (skipN a l).bind (skipN b) := by
  induction l with
  | nil =>
    intro a b
    cases a with
    | zero => simp [skipN]
    | succ a => rw [show a + 1 + b = (a + b) + 1 from by omega]; rfl
  | cons x l ih =>
    intro a b
    cases a with
    | zero => simp [skipN]
    | succ a =>
      rw [show a + 1 + b = (a + b) + 1 from by omega]
      simp only [skipN]
      split
      · rw [show a + b + 2 = a + 2 + b from by omega, ih]
      · exact ih a b
theorem skip_two (x : PNode) (l : List PNode) (h : two x.kind = true) : skipN 1 (x :: l) = (skipN 1 l).bind (skipN 1) := by
  rw [← skipN_add]; simp [skipN, h]
theorem skip_one (x : PNode) (l : List PNode) (h : two x.kind = false) : skipN 1 (x :: l) = some l := by
  simp [skipN, h, skipN_zero]
theorem skipN_suffix (l : List PNode) : ∀ n r, skipN n l = some r → ∃ d, l = d ++ r := by
  induction l with
  | nil => intro n r h; cases n <;> simp [skipN] at h; exact ⟨[], by simp [h]⟩
  | cons x l ih =>
    intro n r h
    cases n with
    | zero => simp [skipN] at h; exact ⟨[], by simp [h]⟩
    | succ n => obtain ⟨d, hd⟩ := ih _ _ h; exact ⟨x :: d, by simp [hd]⟩
theorem skip_lt {l r : List PNode} (h : skipN 1 l = some r) : r.length < l.length := by
  cases l with
  | nil => simp [skipN] at h
  | cons x l =>
    obtain ⟨d, hd⟩ := skipN_suffix l _ r h
    have := congrArg List.length hd
    simp at this ⊢; omega
/-- Where the next program behind the one at k begins; -1: there is none at k. -/
def oneM (p : List PNode) (k : Int) : Int :=
  if k < 0 then -1 else match skipN 1 (p.drop k.toNat) with
    | some r => (p.length : Int) - r.length
    | none => -1
theorem drop_suffix {p d r : List PNode} (k : Nat) (h : p.drop k = d ++ r) : p.drop (p.length - r.length) = r := by
  have hl := congrArg List.length h
  simp at hl
  have e : p.length - r.length = k + d.length ∨ (r = [] ∧ d = []) := by
    cases r with
    | nil => cases d with
      | nil => right; simp
      | cons => left; simp at hl ⊢; omega
    | cons => left; simp at hl ⊢; omega
  rcases e with e | ⟨rfl, rfl⟩
  · rw [e, ← List.drop_drop, h]; simp
  · simp
theorem oneM_neg (p : List PNode) {k : Int} (h : k < 0) : oneM p k = -1 := by simp [oneM, h]
theorem oneM_big (p : List PNode) {k : Int} (h : (p.length : Int) ≤ k) : oneM p k = -1 := by
  have : ¬ k < 0 := by omega
  have e : p.drop k.toNat = [] := List.drop_eq_nil_of_le (by omega)
  simp [oneM, this, e, skipN]
theorem oneM_leaf {p : List PNode} {k : Nat} {x : PNode} (hx : p[k]? = some x) (h : two x.kind = false) : oneM p k = k + 1 := by
  have hk : k < p.length := (List.getElem?_eq_some_iff.1 hx).1
  have hd : p.drop k = x :: p.drop (k + 1) := by
    rw [List.drop_eq_getElem_cons hk]; congr 1; exact (List.getElem?_eq_some_iff.1 hx).2
  have : ¬ (k : Int) < 0 := by omega
  simp only [oneM, this, if_false, Int.toNat_natCast, hd, skip_one x _ h, List.length_drop]
  omega
theorem oneM_range (p : List PNode) (k : Int) : oneM p k = -1 ∨ (0 ≤ k ∧ k < oneM p k ∧ oneM p k ≤ p.length) := by
  by_cases hk : k < 0
  · left; exact oneM_neg p hk
  · simp only [oneM, hk, if_false]
    cases h : skipN 1 (p.drop k.toNat) with
    | none => simp
    | some r =>
      right
      have := skip_lt h
      simp at this
      simp only []
      omega
theorem oneM_two {p : List PNode} {k : Nat} {x : PNode} (hx : p[k]? = some x) (h : two x.kind = true) : oneM p k = oneM p (oneM p ((k : Int) + 1)) := by
  have hk : k < p.length := (List.getElem?_eq_some_iff.1 hx).1
  have hd : p.drop k = x :: p.drop (k + 1) := by
    rw [List.drop_eq_getElem_cons hk]; congr 1; exact (List.getElem?_eq_some_iff.1 hx).2
  have h0 : ¬ (k : Int) < 0 := by omega
  have h1 : ¬ (k : Int) + 1 < 0 := by omega
  have e1 : ((k : Int) + 1).toNat = k + 1 := by omega
  have hL : oneM p k = match (skipN 1 (p.drop (k + 1))).bind (skipN 1) with | some r => (p.length : Int) - r.length | none => -1 := by
    simp only [oneM, h0, if_false, Int.toNat_natCast, hd, skip_two x _ h]
  rw [hL]
  have hM : oneM p ((k : Int) + 1) = match skipN 1 (p.drop (k + 1)) with | some r => (p.length : Int) - r.length | none => -1 := by
    simp only [oneM, h1, if_false, e1]
  rw [hM]
  cases hs : skipN 1 (p.drop (k + 1)) with
  | none => simp [oneM]
  | some r =>
    obtain ⟨d, hdr⟩ := skipN_suffix _ _ _ hs
    have hr := drop_suffix (k + 1) hdr
    have hlen : r.length ≤ p.length := by
      have := congrArg List.length hdr; simp at this; omega
    have h2 : ¬ (p.length : Int) - r.length < 0 := by omega
    have e2 : ((p.length : Int) - r.length).toNat = p.length - r.length := by omega
    simp only [Option.bind_some, oneM, h2, if_false, e2, hr]
def signsM (kind : Int) : Int := if kind = 4 ∨ kind = 7 then 3 else if kind = 3 ∨ kind = 8 then 3 else 1
def badKind (x : PNode) : Bool := decide (x.kind < 0) || decide (8 < x.kind)
def badSig (x : PNode) : Bool := decide (x.sig < 0) || decide (signsM x.kind ≤ x.sig)
def checkP (p : List PNode) : Int :=
  if 14 < p.length then 2 else if p.any badKind then 4 else if p.any badSig then 3 else if oneM p 0 ≠ p.length then 1 else 0
def waitK (k : Int) : Bool := decide (k = 1) || decide (k = 2) || decide (k = 4)
def ofP (p : List PNode) (k : Nat) : Int × Int × Int :=
  match p[k]? with
  | some x => if two x.kind then ((k : Int) + 1, oneM p ((k : Int) + 1), oneM p k) else (0, 0, oneM p k)
  | none => (0, 0, 0)
/-! the reference -/
theorem skip_all (p : List PNode) : (oneM p 0 = p.length) = (skipN 1 p = some []) := by
  simp only [oneM, Int.lt_irrefl, if_false, Int.toNat_zero, List.drop_zero]
  cases h : skipN 1 p with
  | none => simp
  | some r =>
    have := skip_lt h
    simp only [eq_iff_iff, Option.some.injEq]
    constructor
    · intro e; exact List.eq_nil_of_length_eq_zero (by omega)
    · rintro rfl; simp
theorem checkP_ok {p : List PNode} (h : checkP p = 0) : p.length ≤ 14 ∧ p.any badKind = false ∧ p.any badSig = false ∧ skipN 1 p = some [] := by
  unfold checkP at h
  by_cases h1 : 14 < p.length
  · simp [h1] at h
  · cases hk : p.any badKind with
    | true => simp [h1, hk] at h
    | false =>
      cases hs : p.any badSig with
      | true => simp [h1, hk, hs] at h
      | false =>
        by_cases hq : oneM p 0 = p.length
        · exact ⟨by omega, rfl, rfl, by rwa [skip_all] at hq⟩
        · simp [h1, hk, hs, hq] at h
def playM : List PNode := [⟨5, 0⟩, ⟨6, 0⟩, ⟨5, 0⟩, ⟨4, 0⟩, ⟨3, 0⟩, ⟨5, 0⟩, ⟨1, 0⟩, ⟨3, 1⟩, ⟨5, 0⟩, ⟨1, 0⟩, ⟨8, 0⟩, ⟨3, 2⟩, ⟨2, 0⟩]
end Go.Proofs.Ytlafiddfplhafaa
/- How arguments that are read as data open to the words of Lib: slices of structs of one-cell fields. (open_slice_fields is the guide's page extra-structs, to be copied.) -/
namespace Go.Proofs.Ytlafiddfplhafaa
set_option linter.unusedVariables false
set_option linter.unusedSimpArgs false
open Go.ChangeShapes Go.WideShapes Go.Deep Go.RowKit
section
variable {H : Type} {enc : TypeId × Value → H} {P : Program} {w : World} {base : Nat} {spare : Nat → Bool} {held : Bool}
theorem open_slice_fields {t e : TypeId} {fs : Array Field} {fuel : Nat} {cs : List Value} {x : DataW H × List MemPlace} (ht : P.underlying t = some (.slice e)) (he : P.underlying e = some (.struct fs))
    (hone : oneCellFields P fs = true) (hC : P.cellsOf e = fs.size) (h : DataW.trod enc P w base spare held fuel t cs = some x) :
    (cs = [.slice none 0 0] ∧ x = (.nil, [])) ∨
    ∃ (a : Addr) (len cap m : Nat) (D : Nat → DataW H) (Pl : Nat → List MemPlace), cs = [.slice (some a) len cap] ∧ base ≤ a.block ∧ len ≤ cap ∧ cap ≤ maxLen ∧ m = (if spare a.block then cap else len) ∧
      x = (.slice ((List.range len).map D) ((List.range (m - len)).map fun j => D (len + j)), MemPlace.row a (m * fs.size) ++ (List.range m).flatMap Pl) ∧
      ∀ i, i < m → ∃ (ys : List (DataW H × List MemPlace)) (n : Nat), D i = .agg (ys.map (·.1)) ∧ Pl i = ys.flatMap (·.2) ∧ ys.length = fs.size ∧
        ∀ (j : Nat) (f : Field), fs[j]? = some f → ∃ (v : Value) (y : DataW H × List MemPlace), w.cell? (a.add (i * fs.size + j)) = some v ∧ ys[j]? = some y ∧ DataW.trod enc P w base spare held n f.type [v] = some y := by
  rcases open_slice ht h with h0 | ⟨a, len, cap, m, n, D, Pl, hcs, hb, hl, hm, hmm, hx, hi⟩
  · exact .inl h0
  · refine .inr ⟨a, len, cap, m, D, Pl, hcs, hb, hl, hm, hmm, by rw [hC] at hx; exact hx, fun i him => ?_⟩
    obtain ⟨cs', hc, ht'⟩ := hi i him
    rw [hC] at hc
    obtain ⟨ys, n', hn', hy, hlen, hyl, hf⟩ := DataW.trod_struct he ht'
    obtain ⟨_, hcl, hat⟩ := World.cells?_some hc
    simp only [Prod.mk.injEq] at hy
    refine ⟨ys, n', hy.1, hy.2, hyl, fun j f hj => ?_⟩
    obtain ⟨ho, hk⟩ := hone_of hone j f hj
    have hjl : j < fs.size := (Array.getElem?_eq_some_iff.1 hj).1
    have hcell := hat j hjl
    have hv : cs'[j]? = some (cs'[j]'(by omega)) := List.getElem?_eq_getElem (by omega)
    have h1 := hf j f hj
    rw [ho, hk] at h1
    have hone' : (cs'.drop j).take 1 = [cs'[j]'(by omega)] := by
      rw [List.drop_eq_getElem_cons (by omega)]
      rfl
    rw [hone'] at h1
    have hys : ys[j]? = some (ys[j]'(by omega)) := List.getElem?_eq_getElem (by omega)
    refine ⟨_, _, ?_, hys, h1.trans hys⟩
    rw [← Go.Deep.add_add, hcell, hv]
end
/-- A slice of nodes that is read as data reads as a list of nodes. -/
theorem open_nodes {H : Type} {enc : TypeId × Value → H} {w : World} {base : Nat} {held : Bool} {fuel : Nat} {cs : List Value} {x : DataW H × List MemPlace}
    (h : DataW.trod enc Try.prog w base (fun _ => true) held fuel 22 cs = some x) :
    ∃ (A : Option Addr) (n c : Nat) (p : List PNode), cs = [.slice A n c] ∧ Sl2 (fun x : PNode => I x.kind) (fun x => I x.sig) w A n p ∧ n ≤ c ∧ c ≤ maxLen ∧
      ∀ y ∈ p, (Lit.int .i64 y.kind).wf = true ∧ (Lit.int .i64 y.sig).wf = true := by
  rcases open_slice_fields (P := Try.prog) (fs := _) Try.underlying22 Try.underlying64 (by kernel_rfl) (by kernel_rfl) h with ⟨rfl, rfl⟩ | ⟨a, len, cap, m, D, Pl, rfl, hb, hl, hm, hmm, hx, hf⟩
  · exact ⟨none, 0, 0, [], rfl, Sl2.nil _ _ _ _, Nat.le_refl _, Nat.zero_le _, by simp⟩
  · simp only [if_true] at hmm
    have each : ∀ i, i < len → ∃ y : PNode, w.cell? (a.add (i * 2)) = some (I y.kind) ∧ w.cell? (a.add (i * 2 + 1)) = some (I y.sig) ∧ (Lit.int .i64 y.kind).wf = true ∧ (Lit.int .i64 y.sig).wf = true := by
      intro i hi
      obtain ⟨ys, n, _, _, _, hff⟩ := hf i (by omega)
      obtain ⟨v0, y0, hc0, hy0, ht0⟩ := hff 0 _ rfl
      obtain ⟨v1, y1, hc1, hy1, ht1⟩ := hff 1 _ rfl
      obtain ⟨k0, e0, _, wf0⟩ := DataW.trod_int Try.underlying3 ht0
      obtain ⟨k1, e1, _, wf1⟩ := DataW.trod_int Try.underlying3 ht1
      simp only [List.cons.injEq, and_true] at e0 e1
      subst e0; subst e1
      exact ⟨⟨k0, k1⟩, hc0, hc1, wf0, wf1⟩
    have hlist : ∀ m, m ≤ len → ∃ p : List PNode, p.length = m ∧ ∀ i y, p[i]? = some y → w.cell? (a.add (i * 2)) = some (I y.kind) ∧ w.cell? (a.add (i * 2 + 1)) = some (I y.sig) ∧ (Lit.int .i64 y.kind).wf = true ∧ (Lit.int .i64 y.sig).wf = true := by
      intro m
      induction m with
      | zero => exact fun _ => ⟨[], rfl, by simp⟩
      | succ m ih =>
        intro hm
        obtain ⟨p, hp, hp2⟩ := ih (by omega)
        obtain ⟨y, hy⟩ := each m (by omega)
        refine ⟨p ++ [y], by simp [hp], fun i z hz => ?_⟩
        rw [List.getElem?_append] at hz
        split at hz
        · exact hp2 i z hz
        · rename_i hlt
          have hi : i = m := by
            rcases Nat.eq_or_lt_of_le (show m ≤ i by omega) with e | e
            · exact e.symm
            · rw [List.getElem?_eq_none (by simp; omega)] at hz; cases hz
          subst hi
          simp [hp] at hz; subst hz
          exact hy
    obtain ⟨p, hp, hp2⟩ := hlist len (Nat.le_refl _)
    refine ⟨some a, len, cap, p, rfl, ⟨hp, fun k y hxk => ?_⟩, hl, hm, fun y hy => ?_⟩
    · obtain ⟨h0, h1, _⟩ := hp2 k y hxk
      have hs : a.spot = none := by
        have h00 := World.cell?_spot h0
        unfold Addr.add at h00; split at h00
        · exact h00
        · rename_i hk
          obtain ⟨b, o, s⟩ := a
          have h01 := (hp2 0 (p[0]'(by have := (List.getElem?_eq_some_iff.1 hxk).1; omega)) (List.getElem?_eq_getElem _)).1
          simpa [Addr.add] using World.cell?_spot h01
      obtain ⟨b, o, s⟩ := a
      subst hs
      rw [add_plain'] at h0 h1
      exact ⟨b, o, rfl, h0, by rw [Nat.add_assoc]; exact h1⟩
    · obtain ⟨i, hi⟩ := List.mem_iff_getElem?.1 hy
      exact (hp2 i y hi).2.2
end Go.Proofs.Ytlafiddfplhafaa
/- SameBools, SameInts: are two lists the same. -/
namespace Go.Proofs.Ytlafiddfplhafaa
set_option linter.unusedVariables false
set_option linter.unusedSimpArgs false
open Go.RowKit
def sameM {α : Type} [DecidableEq α] : List α → List α → Bool
  | x :: a, y :: b => decide (x = y) && sameM a b
  | _, _ => true
theorem sameM_eq {α : Type} [DecidableEq α] : ∀ a b : List α, a.length = b.length → sameM a b = decide (a = b)
  | [], [], _ => by simp [sameM]
  | [], _ :: _, h => by simp at h
  | _ :: _, [], h => by simp at h
  | x :: a, y :: b, h => by
    rw [sameM, sameM_eq a b (by simpa using h), Bool.eq_iff_iff]; simp
set_option maxHeartbeats 1000000 in
theorem sameInts_eq (A B : Option Addr) (n c d : Nat) (xs ys : List Int) (w : World) (h : Sl w A n (xs.map I)) (h' : Sl w B n (ys.map I)) (hn : n ≤ maxLen) :
    Calls Try.prog 36 #[.slice A n c, .slice B n d] w fun e w' => e = .returned (.bool (sameM xs ys)) ∧ ∃ m, w' = w.drewN m := by
  unfold maxLen at hn
  have H := Lib.hid h; clear h
  have H' := Lib.hid h'; clear h'
  go_enter Try.func36, Try.ntmps36
  go_wp2
  go_loopw [5] (fun i wr => ∃ (k m : Nat), k ≤ n ∧ i = .int .i64 k ∧ wr = w.drewN m ∧ sameM (xs.drop k) (ys.drop k) = sameM xs ys) (fun i _ => n - (intOf i).toNat)
  case atStart => exact ⟨0, 0, Nat.zero_le _, rfl, rfl, rfl⟩
  case round =>
    obtain ⟨k, m, hk, rfl, rfl, hM⟩ := hrel
    by_cases hlt : k < n
    · obtain ⟨b, off, x, rfl, hc, hd⟩ := H.out.next hlt
      obtain ⟨b', off', y, rfl, hc', hd'⟩ := H'.out.next hlt
      rw [hd, hd', sameM] at hM
      have HM := Lib.hid hM; clear hM hd hd'
      by_cases hxy : x = y
      · have g3 : (x != y) = false := by simpa using hxy
        have H3 := Lib.hid hxy; clear hxy
        go_wp2_with fail
        go_quiet (fail)
        go_wp2
        go_roundw
        case rel => exact ⟨k + 1, _, by omega, by go_num, rfl, by rw [← HM.out]; simp [H3.out]⟩
        case measure => simp [intOf]; omega
      · have g3 : (x != y) = true := by simpa using hxy
        have H3 := Lib.hid hxy; clear hxy
        go_wp2_with fail
        go_quiet (fail)
        go_wp2
        go_ret; exact ⟨ret_bool (by rw [← HM.out]; simp [H3.out]), _, World.drewN_drewN _ _ _⟩
    · have hE : sameM ([] : List Int) (ys.drop k) = true := by cases ys.drop k <;> rfl
      rw [H.out.drop_end hlt, hE] at hM
      have HM := Lib.hid hM; clear hM hE
      go_wp2
      go_ret; exact ⟨ret_bool HM.out, _, rfl⟩
theorem sameInts_any (A B : Option Addr) (n m c d : Nat) (xs ys : List Int) (w : World) (h : Sl w A n (xs.map I)) (h' : Sl w B m (ys.map I)) (hn : n ≤ maxLen) (hm : m ≤ maxLen) :
    Calls Try.prog 36 #[.slice A n c, .slice B m d] w fun e w' => e = .returned (.bool (decide (xs = ys))) ∧ ∃ m, w' = w.drewN m := by
  by_cases hnm : n = m
  · subst hnm
    rw [← sameM_eq xs ys (by rw [h.len, h'.len])]
    exact sameInts_eq A B n c d xs ys w h h' hn
  · have hf : decide (xs = ys) = false := by
      simp; rintro rfl; exact hnm (h.len.symm.trans h'.len)
    rw [hf]
    have g : ((n : Int) != (m : Int)) = true := by simp; omega
    have H := Lib.hid h; have H' := Lib.hid h'; have HN := Lib.hid hnm
    clear h h' hnm hf
    go_enter Try.func36, Try.ntmps36
    go_wp2
    go_ret; exact ⟨rfl, 0, rfl⟩
end Go.Proofs.Ytlafiddfplhafaa
/- Nets, in plain Lean: what each function of package net computes. -/
namespace Go.Proofs.Ytlafiddfplhafaa
set_option linter.unusedVariables false
set_option linter.unusedSimpArgs false
structure GateM where
  kind : Int
  num : Int
  args : List Int
  deriving DecidableEq
structure StoreM where
  fst : Bool
  next : Int
  deriving DecidableEq
structure NetM where
  ins : Int
  gates : List GateM
  regs : List StoreM
  outs : List Int
  deriving DecidableEq
def formM (N : NetM) (g : GateM) : Bool :=
  let most : Int := if g.kind = 2 then N.ins - 1 else if g.kind = 3 then (N.regs.length : Int) - 1 else 0
  let args : Bool := if g.kind = 4 ∨ g.kind = 5 then true else if g.kind = 6 then decide (g.args.length = 1) else decide (g.args.length = 0)
  args && decide (0 ≤ g.num) && decide (g.num ≤ most)
def manyA (g : GateM) : Bool := decide (16 < g.args.length)
def badPlace (n : Nat) (k : Int) : Bool := decide (k < 0) || decide ((n : Int) ≤ k)
def badGK (g : GateM) : Bool := decide (g.kind < 0) || decide (6 < g.kind)
def tooMany (N : NetM) : Bool := decide (3 < N.ins) || decide (200 < N.gates.length) || decide (20 < N.regs.length) || decide (3 < N.outs.length)
def namedM (N : NetM) : List Int := N.outs ++ N.regs.map (·.next) ++ N.gates.flatMap (·.args)
/-- Check: the first error. -/
def checkN (N : NetM) : Int :=
  if tooMany N then 2 else if N.gates.any manyA then 2 else if N.ins < 0 then 3 else if (namedM N).any (badPlace N.gates.length) then 3
  else if N.gates.any badGK then 4 else if N.gates.all (formM N) then 0 else 1
def firstM (N : NetM) : List Int := N.regs.map fun r => if r.fst then 1 else 0
def nextsM (N : NetM) : List Int := N.regs.map (·.next)
end Go.Proofs.Ytlafiddfplhafaa
/- How a net lies in memory; must, and what is left by a panic. -/
namespace Go.Proofs.Ytlafiddfplhafaa
set_option linter.unusedVariables false
set_option linter.unusedSimpArgs false
open Go.RowKit
/-- A slice of gates, three cells each. -/
def SlG (w : World) (A : Option Addr) (n : Nat) (gs : List GateM) : Prop :=
  gs.length = n ∧ ∀ k g, gs[k]? = some g → ∃ b off A' m c, A = some ⟨b, off, none⟩ ∧ w.cell? ⟨b, off + k * 3, none⟩ = some (I g.kind) ∧ w.cell? ⟨b, off + k * 3 + 1, none⟩ = some (I g.num) ∧
    w.cell? ⟨b, off + k * 3 + 2, none⟩ = some (.slice A' m c) ∧ Sl w A' m (g.args.map I) ∧ m ≤ c ∧ c ≤ maxLen
abbrev RB (r : StoreM) : Value := Bv r.fst
abbrev RN (r : StoreM) : Value := I r.next
abbrev SlR := Sl2 RB RN
theorem SlG.keep {w w' : World} {A : Option Addr} {n : Nat} {gs : List GateM} (h : SlG w A n gs) (hk : Keeps w w') : SlG w' A n gs :=
  ⟨h.1, fun k g hg => let ⟨b, o, A', m, c, e, h0, h1, h2, h3, h4, h5⟩ := h.2 k g hg; ⟨b, o, A', m, c, e, hk _ _ h0, hk _ _ h1, hk _ _ h2, h3.keep hk, h4, h5⟩⟩
theorem SlG.next {w : World} {A : Option Addr} {n : Nat} {gs : List GateM} (h : SlG w A n gs) {k : Nat} (hk : k < n) :
    ∃ b off A' m c g, A = some ⟨b, off, none⟩ ∧ w.cell? ⟨b, off + k * 3, none⟩ = some (I g.kind) ∧ w.cell? ⟨b, off + k * 3 + 1, none⟩ = some (I g.num) ∧
    w.cell? ⟨b, off + k * 3 + 2, none⟩ = some (.slice A' m c) ∧ Sl w A' m (g.args.map I) ∧ m ≤ c ∧ c ≤ maxLen ∧ gs.drop k = g :: gs.drop (k + 1) ∧ gs[k]? = some g := by
  have hl : k < gs.length := by have := h.1; omega
  obtain ⟨b, off, A', m, c, e, r⟩ := h.2 k gs[k] (List.getElem?_eq_getElem hl)
  exact ⟨b, off, A', m, c, gs[k], e, r.1, r.2.1, r.2.2.1, r.2.2.2.1, r.2.2.2.2.1, r.2.2.2.2.2, List.drop_eq_getElem_cons hl, List.getElem?_eq_getElem hl⟩
theorem SlG.drop_end {w : World} {A : Option Addr} {n : Nat} {gs : List GateM} (h : SlG w A n gs) {k : Nat} (hk : ¬ k < n) : gs.drop k = [] := by
  have := h.1; exact List.drop_eq_nil_of_le (by omega)
/-- The four cells of a net that reads as N. -/
structure NetC (w : World) (i : Int) (GA : Option Addr) (gn gc : Nat) (RA : Option Addr) (rn rc : Nat) (OA : Option Addr) (on oc : Nat) (N : NetM) : Prop where
  ins : i = N.ins
  gates : SlG w GA gn N.gates
  regs : SlR w RA rn N.regs
  outs : Sl w OA on (N.outs.map I)
  gl : gn ≤ gc ∧ gc ≤ maxLen
  rl : rn ≤ rc ∧ rc ≤ maxLen
  ol : on ≤ oc ∧ oc ≤ maxLen
theorem NetC.keep {w w' : World} {i : Int} {GA : Option Addr} {gn gc : Nat} {RA : Option Addr} {rn rc : Nat} {OA : Option Addr} {on oc : Nat} {N : NetM} (h : NetC w i GA gn gc RA rn rc OA on oc N) (hk : Keeps w w') : NetC w' i GA gn gc RA rn rc OA on oc N :=
  ⟨h.ins, h.gates.keep hk, h.regs.keep hk, h.outs.keep hk, h.gl, h.rl, h.ol⟩
/-- A net, as a value. -/
abbrev netV (i : Int) (GA : Option Addr) (gn gc : Nat) (RA : Option Addr) (rn rc : Nat) (OA : Option Addr) (on oc : Nat) : Value :=
  .agg #[I i, .slice GA gn gc, .slice RA rn rc, .slice OA on oc]
/-- A net laid in a block of its own. -/
def NetBox (w : World) (b : Nat) (i : Int) (GA : Option Addr) (gn gc : Nat) (RA : Option Addr) (rn rc : Nat) (OA : Option Addr) (on oc : Nat) : Prop :=
  w.cell? ⟨b, 0, none⟩ = some (I i) ∧ w.cell? ⟨b, 1, none⟩ = some (.slice GA gn gc) ∧ w.cell? ⟨b, 2, none⟩ = some (.slice RA rn rc) ∧ w.cell? ⟨b, 3, none⟩ = some (.slice OA on oc)
theorem NetBox.keep {w w' : World} {b : Nat} {i : Int} {GA : Option Addr} {gn gc : Nat} {RA : Option Addr} {rn rc : Nat} {OA : Option Addr} {on oc : Nat} (h : NetBox w b i GA gn gc RA rn rc OA on oc) (hk : Keeps w w') : NetBox w' b i GA gn gc RA rn rc OA on oc :=
  ⟨hk _ _ h.1, hk _ _ h.2.1, hk _ _ h.2.2.1, hk _ _ h.2.2.2⟩
theorem NetBox.new (w : World) (i : Int) (GA : Option Addr) (gn gc : Nat) (RA : Option Addr) (rn rc : Nat) (OA : Option Addr) (on oc : Nat) (T : TypeId) : NetBox (w.alloc (.cells #[I i, .slice GA gn gc, .slice RA rn rc, .slice OA on oc] T)) w.heap.size i GA gn gc RA rn rc OA on oc :=
  ⟨by rw [World.cell?_alloc_new]; rfl, by rw [World.cell?_alloc_new]; rfl, by rw [World.cell?_alloc_new]; rfl, by rw [World.cell?_alloc_new]; rfl⟩
def indexB (v : Bool) : List Bool → Int → Int
  | [], _ => -1
  | x :: l, k => if x = v then k else indexB v l (k + 1)
theorem indexB_lo (v : Bool) (l : List Bool) : ∀ k : Int, 0 ≤ k → decide (0 ≤ indexB v l k) = l.contains v := by
  induction l with
  | nil => intro k _; simp [indexB]
  | cons x l ih =>
    intro k hk
    by_cases h : x = v
    · subst h; simp [indexB, hk]
    · have h' : ¬ v = x := fun e => h e.symm
      simp only [indexB, if_neg h, ih (k + 1) (by omega), List.contains_cons]
      simp [h']
theorem indexBool_any (A : Option Addr) (n c : Nat) (xs : List Bool) (v : Bool) (w : World) (h : Sl w A n (xs.map Bv)) (hn : n ≤ maxLen) :
    Calls Try.prog 98 #[.slice A n c, Bv v] w fun e w' => e = .returned (I (indexB v xs 0)) ∧ w = w' := by
  unfold maxLen at hn
  have H := Lib.hid h; clear h
  go_enter Try.func98, Try.ntmps98
  go_wp2
  go_loop [8] (fun i => ∃ (k : Nat), k ≤ n ∧ i = .int .i64 k ∧ indexB v (xs.drop k) k = indexB v xs 0) (fun i => n - (intOf i).toNat)
  case atStart => exact ⟨0, Nat.zero_le _, rfl, rfl⟩
  case round =>
    obtain ⟨k, hk, rfl, hM⟩ := hrel
    by_cases hlt : k < n
    · obtain ⟨b, off, x, rfl, hc, hd⟩ := H.out.next hlt
      rw [hd, indexB] at hM
      have HM := Lib.hid hM; clear hM hd
      by_cases hx : x = v
      · subst hx
        go_wp2
        go_ret; exact ⟨ret_int (by rw [← HM.out]; simp), rfl⟩
      · have g : (v == x) = false := by simpa using fun e => hx (Eq.symm e)
        have HX := Lib.hid hx; clear hx
        go_wp2
        go_round
        case rel => exact ⟨k + 1, by omega, by go_num, by rw [← HM.out, if_neg HX.out]; simp⟩
        case measure => simp [intOf]; omega
    · rw [H.out.drop_end hlt, indexB] at hM
      have HM := Lib.hid hM; clear hM
      go_wp2
      go_ret; exact ⟨ret_int HM.out, rfl⟩
theorem containsBool_any (A : Option Addr) (n c : Nat) (xs : List Bool) (v : Bool) (w : World) (h : Sl w A n (xs.map Bv)) (hn : n ≤ maxLen) :
    Calls Try.prog 83 #[.slice A n c, Bv v] w fun e w' => e = .returned (.bool (xs.contains v)) ∧ w = w' := by
  have H := Lib.hid h; clear h
  have HM := Lib.hid (indexB_lo v xs 0 (Int.le_refl _))
  go_enter Try.func83, Try.ntmps83
  go_wp2_with fail
  refine (indexBool_any A n c xs v w H.out hn).mono ?_; rintro e w' ⟨rfl, rfl⟩
  go_wp2
  go_ret; exact ⟨ret_bool HM.out, rfl⟩
/-- What is thrown. -/
abbrev thrown (e : Int) : PanicEntry := { v := .iface 91 (.agg #[I e]), recovered := false }
theorem must_ok (A : Option Addr) (n c : Nat) (xs : List Bool) (e : Int) (w : World) (h : Sl w A n (xs.map Bv)) (hn : n ≤ maxLen) (hx : xs.contains false = false) :
    Calls Try.prog 47 #[I e, .slice A n c] w fun e' w' => e' = .returned (.tuple #[]) ∧ w = w' := by
  have H := Lib.hid h; have HX := Lib.hid hx; clear h hx
  go_enter Try.func47, Try.ntmps47
  go_wp2_with fail
  refine (containsBool_any A n c xs false w H.out hn).mono ?_; rintro e w' ⟨rfl, rfl⟩; rw [HX.out]
  go_wp2
  go_end0
  exact ⟨rfl, rfl⟩
theorem must_bad (A : Option Addr) (n c : Nat) (xs : List Bool) (e : Int) (w : World) (h : Sl w A n (xs.map Bv)) (hn : n ≤ maxLen) (hx : xs.contains false = true) :
    Calls Try.prog 47 #[I e, .slice A n c] w fun e' w' => e' = .panicked [thrown e] ∧ w = w' := by
  have H := Lib.hid h; have HX := Lib.hid hx; clear h hx
  go_enter Try.func47, Try.ntmps47
  go_wp2_with fail
  refine (containsBool_any A n c xs false w H.out hn).mono ?_; rintro e w' ⟨rfl, rfl⟩; rw [HX.out]
  go_wp2
  exact ⟨rfl, rfl, rfl⟩
end Go.Proofs.Ytlafiddfplhafaa
/- A net that is read as data opens to the words of NetLib. -/
namespace Go.Proofs.Ytlafiddfplhafaa
set_option linter.unusedVariables false
set_option linter.unusedSimpArgs false
open Go.ChangeShapes Go.WideShapes Go.Deep Go.RowKit Go.Joins
theorem list_of {α : Type} {Q : Nat → α → Prop} (len : Nat) (h : ∀ i, i < len → ∃ y, Q i y) : ∃ p : List α, p.length = len ∧ ∀ i y, p[i]? = some y → Q i y := by
  have : ∀ m, m ≤ len → ∃ p : List α, p.length = m ∧ ∀ i y, p[i]? = some y → Q i y := by
    intro m
    induction m with
    | zero => exact fun _ => ⟨[], rfl, by simp⟩
    | succ m ih =>
      intro hm
      obtain ⟨p, hp, hp2⟩ := ih (by omega)
      obtain ⟨y, hy⟩ := h m (by omega)
      refine ⟨p ++ [y], by simp [hp], fun i z hz => ?_⟩
      rw [List.getElem?_append] at hz
      split at hz
      · exact hp2 i z hz
      · have hi : i = m := by
          rcases Nat.eq_or_lt_of_le (show m ≤ i by omega) with e | e
          · exact e.symm
          · rw [List.getElem?_eq_none (by simp; omega)] at hz; cases hz
        subst hi
        simp [hp] at hz; subst hz
        exact hy
  exact this len (Nat.le_refl _)
theorem spot_of {w : World} {a : Addr} {k : Nat} {u : Value} (h : w.cell? (a.add k) = some u) (hk : k = 0) : ∃ b o, a = ⟨b, o, none⟩ := by
  have hs := spot_none h hk
  obtain ⟨b, o, s⟩ := a
  subst hs
  exact ⟨b, o, rfl⟩
section
variable {H : Type} {enc : TypeId × Value → H} {w : World} {base : Nat} {held : Bool} {fuel : Nat}
end
end Go.Proofs.Ytlafiddfplhafaa
/- Who is needed, in plain Lean: the work list and the rounds tell the same. No program in sight. -/
namespace Go.Proofs.Ytlafiddfplhafaa
set_option linter.unusedVariables false
set_option linter.unusedSimpArgs false
def argsI (gs : List GateM) (k : Int) : List Int := (gs[k.toNat]?.map (·.args)).getD []
def onI (o : List Bool) (k : Int) : Bool := o[k.toNat]?.getD false
def markM (o : List Bool) (l : List Int) : List Bool := l.foldl (fun o a => o.set a.toNat true) o
def roundFrom : List GateM → Nat → List Bool → List Bool
  | [], _, o => o
  | g :: l, k, o => roundFrom l (k + 1) (if onI o k then markM o g.args else o)
def roundM (gs : List GateM) (o : List Bool) : List Bool := roundFrom gs 0 o
def roundsM (gs : List GateM) : Nat → List Bool → List Bool
  | 0, o => o
  | n + 1, o => roundsM gs n (roundM gs o)
def needsM (gs : List GateM) (l : List Int) : List Bool := roundsM gs gs.length (markM (List.replicate gs.length false) l)
def inR (n : Nat) (l : List Int) : Prop := ∀ k ∈ l, 0 ≤ k ∧ k < n
def okArgs (gs : List GateM) : Prop := ∀ g ∈ gs, inR gs.length g.args
inductive NReach (gs : List GateM) (l : List Int) : Int → Prop
  | base {k : Int} : k ∈ l → NReach gs l k
  | step {k a : Int} : NReach gs l k → a ∈ argsI gs k → NReach gs l a
theorem argsI_mem {gs : List GateM} {k a : Int} (h : a ∈ argsI gs k) : ∃ g, gs[k.toNat]? = some g ∧ a ∈ g.args := by
  unfold argsI at h
  cases e : gs[k.toNat]? with
  | none => simp [e] at h
  | some g => exact ⟨g, rfl, by simpa [e] using h⟩
theorem argsI_range {gs : List GateM} (h : okArgs gs) {k a : Int} (ha : a ∈ argsI gs k) : 0 ≤ a ∧ a < gs.length := by
  obtain ⟨g, hg, hm⟩ := argsI_mem ha
  exact h g (List.mem_of_getElem? hg) a hm
theorem reach_range {gs : List GateM} (h : okArgs gs) {l : List Int} (hl : inR gs.length l) {k : Int} (r : NReach gs l k) : 0 ≤ k ∧ k < gs.length := by
  cases r with
  | base hk => exact hl _ hk
  | step _ ha => exact argsI_range h ha
/-! lists of flags -/
theorem onI_set (o : List Bool) (a k : Int) (h0 : 0 ≤ a) (h1 : a < o.length) (k0 : 0 ≤ k) : onI (o.set a.toNat true) k = (onI o k || decide (k = a)) := by
  unfold onI
  rw [List.getElem?_set]
  by_cases e : k = a
  · subst e; rw [if_pos rfl, if_pos (by omega)]; simp
  · have : ¬ a.toNat = k.toNat := by omega
    simp [this, e]
theorem markM_length (l : List Int) : ∀ o : List Bool, (markM o l).length = o.length := by
  induction l with
  | nil => intro o; rfl
  | cons a l ih => intro o; simp only [markM, List.foldl_cons] at *; rw [ih]; simp
theorem onI_mark (l : List Int) (k : Int) (k0 : 0 ≤ k) : ∀ o : List Bool, inR o.length l → (onI (markM o l) k = true ↔ onI o k = true ∨ k ∈ l) := by
  induction l with
  | nil => intro o _; simp [markM]
  | cons a l ih =>
    intro o h
    have ha := h a (by simp)
    have h2 := ih (o.set a.toNat true) (fun x hx => by simpa using h x (by simp [hx]))
    simp only [markM, List.foldl_cons] at h2 ⊢
    rw [h2, onI_set o a k ha.1 ha.2 k0]
    simp only [Bool.or_eq_true, decide_eq_true_eq, List.mem_cons]
    constructor
    · rintro ((h | h) | h)
      · exact .inl h
      · exact .inr (.inl h)
      · exact .inr (.inr h)
    · rintro (h | h | h)
      · exact .inl (.inl h)
      · exact .inl (.inr h)
      · exact .inr h
theorem flags_ext {a b : List Bool} (hl : a.length = b.length) (h : ∀ k : Nat, k < a.length → onI a k = onI b k) : a = b := by
  apply List.ext_getElem hl
  intro i h1 h2
  have := h i h1
  simpa [onI, List.getElem?_eq_getElem h1, List.getElem?_eq_getElem h2] using this
theorem onI_lt {o : List Bool} {k : Int} (h : onI o k = true) : k.toNat < o.length := by
  unfold onI at h
  rcases Nat.lt_or_ge k.toNat o.length with e | e
  · exact e
  · rw [List.getElem?_eq_none e] at h; cases h
/-- What is needed: closed, and nothing else than is reached. -/
structure Least (gs : List GateM) (l : List Int) (o : List Bool) : Prop where
  len : o.length = gs.length
  sound : ∀ k : Int, 0 ≤ k → onI o k = true → NReach gs l k
  all : ∀ k ∈ l, onI o k = true
  closed : ∀ k : Int, 0 ≤ k → onI o k = true → ∀ a ∈ argsI gs k, onI o a = true
theorem Least.iff {gs : List GateM} {l : List Int} {o : List Bool} (h : Least gs l o) (ok : okArgs gs) (hl : inR gs.length l) {k : Int} (h0 : 0 ≤ k) : onI o k = true ↔ NReach gs l k := by
  refine ⟨h.sound k h0, fun r => ?_⟩
  induction r with
  | base hk => exact h.all _ hk
  | step r ha ih => exact h.closed _ (reach_range ok hl r).1 (ih (reach_range ok hl r).1) _ ha
theorem Least.uniq {gs : List GateM} {l : List Int} {a b : List Bool} (h : Least gs l a) (k : Least gs l b) (ok : okArgs gs) (hl : inR gs.length l) : a = b := by
  refine flags_ext (by rw [h.len, k.len]) fun i _ => ?_
  rw [Bool.eq_iff_iff, h.iff ok hl (by omega), k.iff ok hl (by omega)]
/-! the rounds -/
def subB : List Bool → List Bool → Bool
  | [], [] => true
  | x :: a, y :: b => (!x || y) && subB a b
  | _, _ => false
theorem subB_refl (a : List Bool) : subB a a = true := by
  induction a with
  | nil => rfl
  | cons x a ih => cases x <;> simp [subB, ih]
theorem subB_trans : ∀ {a b c : List Bool}, subB a b = true → subB b c = true → subB a c = true
  | [], [], [], _, _ => rfl
  | [], [], z :: c, _, h => by simp [subB] at h
  | [], y :: b, _, h, _ => by simp [subB] at h
  | x :: a, [], _, h, _ => by simp [subB] at h
  | x :: a, y :: b, [], _, h => by simp [subB] at h
  | x :: a, y :: b, z :: c, h, k => by
    simp only [subB, Bool.and_eq_true] at *
    exact ⟨by cases x <;> cases y <;> cases z <;> simp_all, subB_trans h.2 k.2⟩
theorem subB_anti : ∀ {a b : List Bool}, subB a b = true → subB b a = true → a = b
  | [], [], _, _ => rfl
  | [], y :: b, h, _ => by simp [subB] at h
  | x :: a, [], h, _ => by simp [subB] at h
  | x :: a, y :: b, h, k => by
    simp only [subB, Bool.and_eq_true] at *
    rw [subB_anti h.2 k.2]; cases x <;> cases y <;> simp_all
theorem subB_set : ∀ (o : List Bool) (k : Nat), subB o (o.set k true) = true
  | [], _ => rfl
  | x :: o, 0 => by simp [subB, subB_refl]
  | x :: o, k + 1 => by simp [subB, subB_set o k]
theorem subB_mark (l : List Int) : ∀ o : List Bool, subB o (markM o l) = true := by
  induction l with
  | nil => intro o; exact subB_refl o
  | cons a l ih => intro o; exact subB_trans (subB_set o _) (ih _)
theorem subB_len : ∀ {a b : List Bool}, subB a b = true → a.length = b.length
  | [], [], _ => rfl
  | [], y :: b, h => by simp [subB] at h
  | x :: a, [], h => by simp [subB] at h
  | x :: a, y :: b, h => by simp only [subB, Bool.and_eq_true] at h; simp [subB_len h.2]
theorem subB_at : ∀ {a b : List Bool} (k : Nat), subB a b = true → a[k]?.getD false = true → b[k]?.getD false = true
  | [], _, k, _, h => by simp at h
  | x :: a, [], _, h, _ => by simp [subB] at h
  | x :: a, y :: b, 0, h, k => by simp only [subB, Bool.and_eq_true] at h; simp_all
  | x :: a, y :: b, n + 1, h, k => by simp only [subB, Bool.and_eq_true] at h; simpa using subB_at n h.2 (by simpa using k)
def cnt (o : List Bool) : Nat := o.countP id
theorem cnt_le : ∀ {a b : List Bool}, subB a b = true → cnt a ≤ cnt b ∧ (cnt a = cnt b → a = b)
  | [], [], _ => ⟨Nat.le_refl _, fun _ => rfl⟩
  | [], y :: b, h => by simp [subB] at h
  | x :: a, [], h => by simp [subB] at h
  | x :: a, y :: b, h => by
    simp only [subB, Bool.and_eq_true] at h
    obtain ⟨h1, h2⟩ := cnt_le h.2
    unfold cnt at *
    cases x <;> cases y <;> simp_all <;> omega
theorem cnt_max (o : List Bool) : cnt o ≤ o.length := List.countP_le_length
theorem roundFrom_sub (l : List GateM) : ∀ (k : Nat) (o : List Bool), subB o (roundFrom l k o) = true := by
  induction l with
  | nil => intro k o; exact subB_refl o
  | cons g l ih =>
    intro k o
    simp only [roundFrom]
    split
    · exact subB_trans (subB_mark _ _) (ih _ _)
    · exact ih _ _
theorem roundFrom_sound {gs : List GateM} {q : List Int} (ok : okArgs gs) (hq : inR gs.length q) (l : List GateM) : ∀ (k : Nat) (o : List Bool), gs.drop k = l → o.length = gs.length → (∀ i : Int, 0 ≤ i → onI o i = true → NReach gs q i) →
    ∀ i : Int, 0 ≤ i → onI (roundFrom l k o) i = true → NReach gs q i := by
  induction l with
  | nil => intro k o _ _ h; exact h
  | cons g l ih =>
    intro k o hd ho h i hi hon
    simp only [roundFrom] at hon
    have hk : gs[k]? = some g := by
      have : (gs.drop k)[0]? = some g := by rw [hd]; rfl
      simpa using this
    have hd' : gs.drop (k + 1) = l := by rw [← List.drop_drop, hd]; rfl
    split at hon
    · rename_i hk2
      refine ih (k + 1) _ hd' (by rw [markM_length, ho]) (fun j hj hj2 => ?_) i hi hon
      have hr : inR o.length g.args := by rw [ho]; exact ok g (List.mem_of_getElem? hk)
      rcases (onI_mark g.args j hj o hr).1 hj2 with e | e
      · exact h j hj e
      · exact .step (h k (by omega) hk2) (by simp [argsI, hk, e])
    · exact ih (k + 1) o hd' ho h i hi hon
theorem roundFrom_fix {gs : List GateM} (ok : okArgs gs) (l : List GateM) : ∀ (k : Nat) (o : List Bool), gs.drop k = l → o.length = gs.length → subB (roundFrom l k o) o = true →
    ∀ (j : Nat) (g : GateM), l[j]? = some g → onI o ((k + j : Nat) : Int) = true → ∀ a ∈ g.args, onI o a = true := by
  induction l with
  | nil => intro k o _ _ _ j g h; simp at h
  | cons g l ih =>
    intro k o hd ho h j x hj hon a ha
    have hk : gs[k]? = some g := by
      have : (gs.drop k)[0]? = some g := by rw [hd]; rfl
      simpa using this
    have hd' : gs.drop (k + 1) = l := by rw [← List.drop_drop, hd]; rfl
    simp only [roundFrom] at h
    generalize hb : onI o k = b at h
    cases b
    · simp only [Bool.false_eq_true, if_false] at h
      cases j with
      | zero => simp at hon; rw [hon] at hb; cases hb
      | succ j => exact ih (k + 1) o hd' ho h j x (by simpa using hj) (by rw [show k + 1 + j = k + (j + 1) from by omega]; exact hon) a ha
    · simp only [if_true] at h
      have hm : markM o g.args = o := subB_anti (subB_trans (roundFrom_sub l (k + 1) _) h) (subB_mark _ _)
      rw [hm] at h
      cases j with
      | zero =>
        simp at hj; subst hj
        have hr : inR o.length g.args := by rw [ho]; exact ok g (List.mem_of_getElem? hk)
        have := (onI_mark g.args a (hr a ha).1 o hr).2 (.inr ha)
        rwa [hm] at this
      | succ j => exact ih (k + 1) o hd' ho h j x (by simpa using hj) (by rw [show k + 1 + j = k + (j + 1) from by omega]; exact hon) a ha
theorem roundM_len (gs : List GateM) (o : List Bool) : (roundM gs o).length = o.length := (subB_len (roundFrom_sub gs 0 o)).symm
theorem roundsM_fixed (gs : List GateM) (n : Nat) : ∀ o, roundM gs o = o → roundsM gs n o = o := by
  induction n with
  | zero => intro o _; rfl
  | succ n ih => intro o h; simp only [roundsM, h]; exact ih o h
theorem roundsM_fix (gs : List GateM) (n : Nat) : ∀ o : List Bool, o.length - cnt o ≤ n → roundM gs (roundsM gs n o) = roundsM gs n o := by
  induction n with
  | zero =>
    intro o h
    simp only [roundsM]
    have h1 := cnt_le (roundFrom_sub gs 0 o)
    have h2 := cnt_max (roundFrom gs 0 o)
    have h3 := cnt_max o
    have h4 := roundM_len gs o
    unfold roundM at *
    exact (h1.2 (by omega)).symm
  | succ n ih =>
    intro o h
    by_cases e : roundM gs o = o
    · rw [roundsM_fixed gs (n + 1) o e]; exact e
    · simp only [roundsM]
      refine ih _ ?_
      have h1 := cnt_le (roundFrom_sub gs 0 o)
      have h4 := roundM_len gs o
      have : cnt o ≠ cnt (roundM gs o) := fun hc => e (h1.2 hc).symm
      unfold roundM at *
      omega
theorem roundsM_len (gs : List GateM) (n : Nat) : ∀ o, (roundsM gs n o).length = o.length := by
  induction n with
  | zero => intro o; rfl
  | succ n ih => intro o; simp only [roundsM]; rw [ih, roundM_len]
theorem roundsM_sub (gs : List GateM) (n : Nat) : ∀ o, subB o (roundsM gs n o) = true := by
  induction n with
  | zero => intro o; exact subB_refl o
  | succ n ih => intro o; exact subB_trans (roundFrom_sub gs 0 o) (ih _)
theorem roundsM_sound {gs : List GateM} {q : List Int} (ok : okArgs gs) (hq : inR gs.length q) (n : Nat) : ∀ o : List Bool, o.length = gs.length → (∀ i : Int, 0 ≤ i → onI o i = true → NReach gs q i) →
    ∀ i : Int, 0 ≤ i → onI (roundsM gs n o) i = true → NReach gs q i := by
  induction n with
  | zero => intro o _ h; exact h
  | succ n ih => intro o ho h; exact ih _ (by rw [roundM_len, ho]) (roundFrom_sound ok hq gs 0 o rfl ho h)
theorem onI_none (n : Nat) (k : Int) : onI (List.replicate n false) k = false := by
  unfold onI; rw [List.getElem?_replicate]; split <;> rfl
theorem needsM_len (gs : List GateM) (l : List Int) : (needsM gs l).length = gs.length := by simp [needsM, roundsM_len, markM_length]
theorem needsM_least {gs : List GateM} {l : List Int} (ok : okArgs gs) (hl : inR gs.length l) : Least gs l (needsM gs l) := by
  have hr : inR (List.replicate gs.length false).length l := by simpa using hl
  have h0 : ∀ k : Int, 0 ≤ k → (onI (markM (List.replicate gs.length false) l) k = true ↔ k ∈ l) := fun k k0 => by
    rw [onI_mark l k k0 _ hr, onI_none]; simp
  refine ⟨needsM_len _ _, fun k k0 h => ?_, fun k hk => ?_, fun k k0 h a ha => ?_⟩
  · exact roundsM_sound ok hl _ _ (by simp [markM_length]) (fun i i0 h => .base ((h0 i i0).1 h)) k k0 h
  · exact subB_at k.toNat (roundsM_sub gs _ _) ((h0 k (hl k hk).1).2 hk)
  · obtain ⟨g, hg, hm⟩ := argsI_mem ha
    have hf := roundsM_fix gs gs.length (markM (List.replicate gs.length false) l) (by simp [markM_length])
    refine roundFrom_fix ok gs 0 _ rfl (needsM_len gs l) (by rw [show roundFrom gs 0 (needsM gs l) = needsM gs l from hf]; exact subB_refl _) k.toNat g hg ?_ a hm
    have : ((0 + k.toNat : Nat) : Int) = k := by omega
    rw [this]; exact h
/-! the work list -/
structure NeedInv (gs : List GateM) (l : List Int) (o : List Bool) (work : List Int) : Prop where
  len : o.length = gs.length
  sound : ∀ k : Int, 0 ≤ k → onI o k = true → NReach gs l k
  ws : ∀ k ∈ work, NReach gs l k
  all : ∀ k ∈ l, onI o k = true ∨ k ∈ work
  closed : ∀ k : Int, 0 ≤ k → onI o k = true → ∀ a ∈ argsI gs k, onI o a = true ∨ a ∈ work
theorem NeedInv.start (gs : List GateM) (l : List Int) : NeedInv gs l (List.replicate gs.length false) l :=
  ⟨by simp, fun k _ h => absurd h (by rw [onI_none]; decide), fun k h => .base h, fun k h => .inr h, fun k _ h => absurd h (by rw [onI_none]; decide)⟩
theorem NeedInv.done {gs : List GateM} {l : List Int} {o : List Bool} (h : NeedInv gs l o []) (ok : okArgs gs) (hl : inR gs.length l) : o = needsM gs l := by
  refine Least.uniq (gs := gs) (l := l) ⟨h.len, h.sound, fun k hk => ?_, fun k k0 hk a ha => ?_⟩ (needsM_least ok hl) ok hl
  · rcases h.all k hk with e | e
    · exact e
    · cases e
  · rcases h.closed k k0 hk a ha with e | e
    · exact e
    · cases e
theorem NeedInv.skip {gs : List GateM} {l : List Int} {o : List Bool} {work : List Int} {k : Int} (h : NeedInv gs l o (work ++ [k])) (hk : onI o k = true) : NeedInv gs l o work :=
  ⟨h.len, h.sound, fun j hj => h.ws j (by simp [hj]), fun j hj => by
    rcases h.all j hj with e | e
    · exact .inl e
    · rcases List.mem_append.1 e with e | e
      · exact .inr e
      · simp at e; subst e; exact .inl hk, fun j j0 hj a ha => by
    rcases h.closed j j0 hj a ha with e | e
    · exact .inl e
    · rcases List.mem_append.1 e with e | e
      · exact .inr e
      · simp at e; subst e; exact .inl hk⟩
theorem NeedInv.range {gs : List GateM} {l : List Int} {o : List Bool} {work : List Int} {k : Int} (h : NeedInv gs l o (work ++ [k])) (ok : okArgs gs) (hl : inR gs.length l) : 0 ≤ k ∧ k < gs.length :=
  reach_range ok hl (h.ws k (by simp))
theorem NeedInv.mark {gs : List GateM} {l : List Int} {o : List Bool} {work : List Int} {k : Int} (h : NeedInv gs l o (work ++ [k])) (ok : okArgs gs) (hl : inR gs.length l) : NeedInv gs l (o.set k.toNat true) (work ++ argsI gs k) := by
  obtain ⟨k0, k1⟩ := h.range ok hl
  have hs : ∀ j : Int, 0 ≤ j → onI (o.set k.toNat true) j = (onI o j || decide (j = k)) := fun j j0 => onI_set o k j k0 (by rw [h.len]; exact k1) j0
  refine ⟨by simp [h.len], fun j j0 hj => ?_, fun j hj => ?_, fun j hj => ?_, fun j j0 hj a ha => ?_⟩
  · rw [hs j j0] at hj
    simp only [Bool.or_eq_true, decide_eq_true_eq] at hj
    rcases hj with e | rfl
    · exact h.sound j j0 e
    · exact h.ws _ (by simp)
  · rcases List.mem_append.1 hj with e | e
    · exact h.ws j (by simp [e])
    · exact .step (h.ws k (by simp)) e
  · rw [hs j (hl j hj).1]
    rcases h.all j hj with e | e
    · simp [e]
    · rcases List.mem_append.1 e with e | e
      · exact .inr (by simp [e])
      · simp at e; simp [e]
  · rw [hs j j0] at hj
    rw [hs a (argsI_range ok ha).1]
    simp only [Bool.or_eq_true, decide_eq_true_eq] at hj
    rcases hj with e | rfl
    · rcases h.closed j j0 e a ha with e | e
      · simp [e]
      · rcases List.mem_append.1 e with e | e
        · exact .inr (by simp [e])
        · simp at e; simp [e]
    · exact .inr (by simp [ha])
/-- What the gates that are not yet marked may still bring. -/
def costN : List GateM → List Bool → Nat
  | g :: gs, b :: o => (if b then 0 else g.args.length) + costN gs o
  | _, _ => 0
theorem costN_set : ∀ (gs : List GateM) (o : List Bool) (k : Nat) (g : GateM), gs[k]? = some g → o[k]? = some false → costN gs (o.set k true) + g.args.length = costN gs o
  | [], _, k, g, h, _ => by simp at h
  | x :: gs, [], k, g, _, h => by simp at h
  | x :: gs, b :: o, 0, g, h, h2 => by simp at h h2; subst h; subst h2; simp [costN]; omega
  | x :: gs, b :: o, k + 1, g, h, h2 => by
    have := costN_set gs o k g (by simpa using h) (by simpa using h2)
    simp [costN]; omega
theorem costN_le (m : Nat) : ∀ (gs : List GateM) (o : List Bool), (∀ g ∈ gs, g.args.length ≤ m) → costN gs o ≤ gs.length * m
  | [], _, _ => by simp [costN]
  | x :: gs, [], _ => by simp [costN]
  | x :: gs, b :: o, h => by
    have h1 := costN_le m gs o (fun g hg => h g (by simp [hg]))
    have h2 := h x (by simp)
    have h3 : (gs.length + 1) * m = gs.length * m + m := Nat.succ_mul _ _
    simp only [costN, List.length_cons, h3]
    split <;> omega
/-! the law NetTrue -/
end Go.Proofs.Ytlafiddfplhafaa
/- Three values, in plain Lean: what each function computes, and that the program and the reference compute the same. No program in sight. -/
namespace Go.Proofs.Ytlafiddfplhafaa
set_option linter.unusedVariables false
set_option linter.unusedSimpArgs false
def bad3 (n : Int) : Bool := decide (n < 0) || decide (2 < n)
def gatherM (rules : Int) : List Int → Int → Int
  | [], out => out
  | v :: l, out => if v = rules then rules else gatherM rules l (if v = 2 then 2 else out)
def indexM (q : Int → Bool) : List Int → Int → Int
  | [], _ => -1
  | x :: l, k => if q x then k else indexM q l (k + 1)
theorem indexM_lo (q : Int → Bool) (l : List Int) : ∀ k : Int, 0 ≤ k → decide (0 ≤ indexM q l k) = l.any q := by
  induction l with
  | nil => intro k _; simp [indexM]
  | cons x l ih =>
    intro k hk
    by_cases h : q x = true
    · simp [indexM, h, hk]
    · simp only [indexM, h, List.any_cons]; simpa using ih (k + 1) (by omega)
def notM (v : Int) : Int := if v = 0 then 1 else if v = 1 then 0 else 2
def ofM (kind : Int) (l : List Int) : Int :=
  if kind = 4 then gatherM 0 l 1 else if kind = 5 then gatherM 1 l 0 else notM (l.headD 0)
def leqM : List Int → List Int → Bool
  | x :: a, y :: b => (decide (x = 2) || decide (x = y)) && leqM a b
  | _, _ => true
/-! the plain laws -/
theorem gatherM_eq (r : Int) (hr : r ≠ 2) (l : List Int) : ∀ out, gatherM r l out = if r ∈ l then r else if (2 : Int) ∈ l then 2 else out := by
  induction l with
  | nil => intro out; simp [gatherM]
  | cons x l ih =>
    intro out
    by_cases h : x = r
    · subst h; simp [gatherM]
    · have h' : ¬ r = x := fun e => h e.symm
      by_cases h2 : x = 2
      · subst h2; simp only [gatherM, if_neg h, if_true, ih]; simp [h']
      · have h2' : ¬ 2 = x := fun e => h2 e.symm
        simp only [gatherM, if_neg h, if_neg h2, ih]; simp [h', h2']
theorem good3 {x : Int} (h : bad3 x = false) : x = 0 ∨ x = 1 ∨ x = 2 := by simp [bad3] at h; omega
theorem notM_good (x : Int) : bad3 (notM x) = false := by
  unfold notM; split
  · rfl
  · split <;> rfl
theorem leqM_mem (r : Int) : ∀ xs ys : List Int, xs.length = ys.length → leqM xs ys = true → r ≠ 2 → r ∈ xs → r ∈ ys
  | [], _, _, _, _, h => by simp at h
  | x :: xs, [], hl, _, _, _ => by simp at hl
  | x :: xs, y :: ys, hl, h, hr, hm => by
    simp only [leqM, Bool.and_eq_true, Bool.or_eq_true, decide_eq_true_eq] at h
    rcases List.mem_cons.1 hm with e | e
    · subst e
      rcases h.1 with h1 | h1
      · exact absurd h1 hr
      · subst h1; simp
    · exact List.mem_cons_of_mem _ (leqM_mem r xs ys (by simpa using hl) h.2 hr e)
theorem leqM_open : ∀ xs ys : List Int, xs.length = ys.length → leqM xs ys = true → (2 : Int) ∉ xs → xs = ys
  | [], [], _, _, _ => rfl
  | [], y :: ys, hl, _, _ => by simp at hl
  | x :: xs, [], hl, _, _ => by simp at hl
  | x :: xs, y :: ys, hl, h, hm => by
    simp only [leqM, Bool.and_eq_true, Bool.or_eq_true, decide_eq_true_eq] at h
    have hx : ¬ x = 2 := fun e => hm (by simp [e])
    rcases h.1 with h1 | h1
    · exact absurd h1 hx
    · rw [h1, leqM_open xs ys (by simpa using hl) h.2 (fun e => hm (List.mem_cons_of_mem _ e))]
theorem leq_of (k : Int) (hk : k = 4 ∨ k = 5) (xs ys : List Int) (hl : xs.length = ys.length) (h : leqM xs ys = true) : ofM k xs = 2 ∨ ofM k xs = ofM k ys := by
  have h5 : ¬ (5 : Int) = 4 := by decide
  by_cases hm : (2 : Int) ∈ xs
  · rcases hk with rfl | rfl
    · by_cases h0 : (0 : Int) ∈ xs
      · right; have := leqM_mem 0 xs ys hl h (by decide) h0; simp [ofM, gatherM_eq 0, h0, this]
      · left; simp [ofM, gatherM_eq 0, h0, hm]
    · by_cases h0 : (1 : Int) ∈ xs
      · right; have := leqM_mem 1 xs ys hl h (by decide) h0; simp [ofM, gatherM_eq 1, h0, this]
      · left; simp [ofM, gatherM_eq 1, h0, hm]
  · right; rw [leqM_open xs ys hl h hm]
end Go.Proofs.Ytlafiddfplhafaa
/- What is settled, in plain Lean: rounds and the work list tell the same, the least that solves. No program in sight. -/
namespace Go.Proofs.Ytlafiddfplhafaa
set_option linter.unusedVariables false
set_option linter.unusedSimpArgs false
def valI (v : List Int) (k : Int) : Int := v[k.toNat]?.getD 0
def worthM (regs ins v : List Int) (g : GateM) : Int :=
  if g.kind = 0 then 0 else if g.kind = 1 then 1 else if g.kind = 2 then valI ins g.num else if g.kind = 3 then valI regs g.num
  else ofM g.kind (g.args.map (valI v))
def nextV (gs : List GateM) (regs ins v : List Int) : List Int := gs.map (worthM regs ins v)
def itV (gs : List GateM) (regs ins : List Int) : Nat → List Int → List Int
  | 0, v => v
  | n + 1, v => itV gs regs ins n (nextV gs regs ins v)
def opensM (n : Nat) : List Int := List.replicate n 2
def settledM (gs : List GateM) (regs ins : List Int) : List Int := itV gs regs ins gs.length (opensM gs.length)
def goodL (l : List Int) : Prop := ∀ x ∈ l, x = 0 ∨ x = 1 ∨ x = 2
def leI (x y : Int) : Prop := x = 2 ∨ x = y
theorem goodL_of {l : List Int} (h : l.any bad3 = false) : goodL l := fun x hx => good3 (by have := List.any_eq_false.1 h x hx; simpa using this)
theorem goodL_any {l : List Int} (h : goodL l) : l.any bad3 = false := by
  rw [List.any_eq_false]; intro x hx
  rcases h x hx with rfl | rfl | rfl <;> decide
theorem leI.refl (x : Int) : leI x x := .inr rfl
theorem leI.trans {x y z : Int} (h : leI x y) (k : leI y z) : leI x z := by
  rcases h with h | rfl
  · exact .inl h
  · exact k
theorem leI.anti {x y : Int} (h : leI x y) (k : leI y x) : x = y := by
  rcases h with rfl | h
  · rcases k with h | h <;> omega
  · exact h
/-! leqM: as lists -/
theorem leqM_refl (a : List Int) : leqM a a = true := by
  induction a with
  | nil => rfl
  | cons x a ih => simp [leqM, ih]
theorem leqM_iff : ∀ {a b : List Int}, a.length = b.length → (leqM a b = true ↔ ∀ k : Nat, k < a.length → leI (a[k]?.getD 0) (b[k]?.getD 0))
  | [], [], _ => by simp [leqM]
  | [], y :: b, h => by simp at h
  | x :: a, [], h => by simp at h
  | x :: a, y :: b, h => by
    have ih := leqM_iff (a := a) (b := b) (by simpa using h)
    simp only [leqM, Bool.and_eq_true, Bool.or_eq_true, decide_eq_true_eq, ih]
    constructor
    · rintro ⟨h1, h2⟩ k hk
      cases k with
      | zero => simpa [leI] using h1
      | succ k => simpa using h2 k (by simpa using hk)
    · intro h2
      exact ⟨by simpa [leI] using h2 0 (by simp), fun k hk => by simpa using h2 (k + 1) (by simpa using hk)⟩
theorem leqM_val {a b : List Int} (hl : a.length = b.length) (h : leqM a b = true) (k : Int) : leI (valI a k) (valI b k) := by
  unfold valI
  rcases Nat.lt_or_ge k.toNat a.length with e | e
  · exact (leqM_iff hl).1 h _ e
  · rw [List.getElem?_eq_none e, List.getElem?_eq_none (by omega)]; exact leI.refl _
theorem leqM_of_val {a b : List Int} (hl : a.length = b.length) (h : ∀ k : Nat, k < a.length → leI (valI a k) (valI b k)) : leqM a b = true :=
  (leqM_iff hl).2 fun k hk => by have := h k hk; simpa [valI] using this
theorem val_ext {a b : List Int} (hl : a.length = b.length) (h : ∀ k : Nat, k < a.length → valI a k = valI b k) : a = b := by
  apply List.ext_getElem hl
  intro i h1 h2
  have := h i h1
  simpa [valI, List.getElem?_eq_getElem h1, List.getElem?_eq_getElem h2] using this
theorem leqM_anti {a b : List Int} (hl : a.length = b.length) (h : leqM a b = true) (k : leqM b a = true) : a = b :=
  val_ext hl fun i _ => (leqM_val hl h i).anti (leqM_val hl.symm k i)
theorem leqM_opens (v : List Int) : leqM (opensM v.length) v = true := by
  refine leqM_of_val (by simp [opensM]) fun k hk => ?_
  left; simp only [opensM, List.length_replicate] at hk
  simp [valI, opensM, hk]
/-! gates -/
theorem leqM_map {v u : List Int} (hl : v.length = u.length) (h : leqM v u = true) (l : List Int) : leqM (l.map (valI v)) (l.map (valI u)) = true := by
  induction l with
  | nil => rfl
  | cons a l ih =>
    simp only [List.map_cons, leqM, ih, Bool.and_true, Bool.or_eq_true, decide_eq_true_eq]
    exact leqM_val hl h a
theorem worth_mono {regs regs' ins ins' v u : List Int} (hr : regs.length = regs'.length) (hi : ins.length = ins'.length) (hl : v.length = u.length)
    (h1 : leqM regs regs' = true) (h2 : leqM ins ins' = true) (h : leqM v u = true) (g : GateM) : leI (worthM regs ins v g) (worthM regs' ins' u g) := by
  unfold worthM
  split
  · exact leI.refl _
  split
  · exact leI.refl _
  split
  · exact leqM_val hi h2 _
  split
  · exact leqM_val hr h1 _
  have hm := leqM_map hl h g.args
  by_cases k4 : g.kind = 4
  · exact leq_of _ (.inl k4) _ _ (by simp) hm
  by_cases k5 : g.kind = 5
  · exact leq_of _ (.inr k5) _ _ (by simp) hm
  simp only [ofM, if_neg k4, if_neg k5]
  cases hg : g.args with
  | nil => exact leI.refl _
  | cons a l =>
    simp only [List.map_cons, List.headD_cons]
    rcases leqM_val hl h a with e | e
    · left; rw [e]; rfl
    · right; rw [e]
theorem next_len (gs : List GateM) (regs ins v : List Int) : (nextV gs regs ins v).length = gs.length := by simp [nextV]
theorem next_val {gs : List GateM} {regs ins v : List Int} {k : Nat} {g : GateM} (h : gs[k]? = some g) : valI (nextV gs regs ins v) k = worthM regs ins v g := by
  simp [valI, nextV, h]
theorem next_mono {gs : List GateM} {regs regs' ins ins' v u : List Int} (hr : regs.length = regs'.length) (hi : ins.length = ins'.length) (hl : v.length = u.length)
    (h1 : leqM regs regs' = true) (h2 : leqM ins ins' = true) (h : leqM v u = true) : leqM (nextV gs regs ins v) (nextV gs regs' ins' u) = true := by
  refine leqM_of_val (by simp [next_len]) fun k hk => ?_
  rw [next_len] at hk
  rw [next_val (List.getElem?_eq_getElem hk), next_val (List.getElem?_eq_getElem hk)]
  exact worth_mono hr hi hl h1 h2 h _
theorem valI_good {v : List Int} (h : goodL v) (k : Int) : valI v k = 0 ∨ valI v k = 1 ∨ valI v k = 2 := by
  unfold valI
  cases e : v[k.toNat]? with
  | none => left; rfl
  | some x => exact h x (List.mem_of_getElem? e)
theorem ofM_good {l : List Int} (hk : goodL l) (k : Int) : ofM k l = 0 ∨ ofM k l = 1 ∨ ofM k l = 2 := by
  unfold ofM
  split
  · rw [gatherM_eq 0 (by decide)]; repeat' split
    all_goals simp
  split
  · rw [gatherM_eq 1 (by decide)]; repeat' split
    all_goals simp
  · exact good3 (notM_good _)
theorem worth_good {regs ins v : List Int} (hr : goodL regs) (hi : goodL ins) (hv : goodL v) (g : GateM) : worthM regs ins v g = 0 ∨ worthM regs ins v g = 1 ∨ worthM regs ins v g = 2 := by
  unfold worthM
  split
  · simp
  split
  · simp
  split
  · exact valI_good hi _
  split
  · exact valI_good hr _
  refine ofM_good (fun x hx => ?_) _
  obtain ⟨a, _, rfl⟩ := List.mem_map.1 hx
  exact valI_good hv a
theorem next_good {gs : List GateM} {regs ins v : List Int} (hr : goodL regs) (hi : goodL ins) (hv : goodL v) : goodL (nextV gs regs ins v) := fun x hx => by
  obtain ⟨g, _, rfl⟩ := List.mem_map.1 hx
  exact worth_good hr hi hv g
/-! the least that solves -/
structure LeastV (gs : List GateM) (regs ins v : List Int) : Prop where
  len : v.length = gs.length
  fix : nextV gs regs ins v = v
  least : ∀ u : List Int, u.length = gs.length → nextV gs regs ins u = u → leqM v u = true
theorem LeastV.uniq {gs : List GateM} {regs ins v u : List Int} (h : LeastV gs regs ins v) (k : LeastV gs regs ins u) : v = u :=
  leqM_anti (by rw [h.len, k.len]) (h.least u k.len k.fix) (k.least v h.len h.fix)
def cntV (v : List Int) : Nat := v.countP (fun x => !decide (x = 2))
theorem cntV_le : ∀ {a b : List Int}, a.length = b.length → leqM a b = true → cntV a ≤ cntV b ∧ (cntV a = cntV b → a = b)
  | [], [], _, _ => ⟨Nat.le_refl _, fun _ => rfl⟩
  | [], y :: b, h, _ => by simp at h
  | x :: a, [], h, _ => by simp at h
  | x :: a, y :: b, h, k => by
    simp only [leqM, Bool.and_eq_true, Bool.or_eq_true, decide_eq_true_eq] at k
    obtain ⟨h1, h2⟩ := cntV_le (a := a) (b := b) (by simpa using h) k.2
    unfold cntV at *
    rcases k.1 with e | e
    · subst e
      by_cases hy : y = 2
      · subst hy; simp_all
      · simp [hy]; constructor <;> omega
    · subst e
      by_cases hx : x = 2
      · subst hx; simp_all
      · simp [hx]; exact ⟨h1, h2⟩
theorem cntV_max (v : List Int) : cntV v ≤ v.length := List.countP_le_length
/-- A state of the rounds: it grows, and says no more than whatever solves. -/
structure RoundV (gs : List GateM) (regs ins v : List Int) : Prop where
  len : v.length = gs.length
  up : leqM v (nextV gs regs ins v) = true
  below : ∀ u : List Int, u.length = gs.length → nextV gs regs ins u = u → leqM v u = true
theorem RoundV.start (gs : List GateM) (regs ins : List Int) : RoundV gs regs ins (opensM gs.length) :=
  ⟨by simp [opensM], by have := leqM_opens (nextV gs regs ins (opensM gs.length)); rwa [next_len] at this, fun u hu _ => by have := leqM_opens u; rwa [hu] at this⟩
theorem RoundV.next {gs : List GateM} {regs ins v : List Int} (h : RoundV gs regs ins v) : RoundV gs regs ins (nextV gs regs ins v) :=
  ⟨next_len _ _ _ _, next_mono rfl rfl (by rw [next_len, h.len]) (leqM_refl _) (leqM_refl _) h.up, fun u hu hf => by
    have := next_mono (gs := gs) (regs := regs) (ins := ins) rfl rfl (by rw [h.len, hu]) (leqM_refl _) (leqM_refl _) (h.below u hu hf)
    rwa [hf] at this⟩
theorem RoundV.more {gs : List GateM} {regs ins v : List Int} (h : RoundV gs regs ins v) (hn : nextV gs regs ins v ≠ v) : cntV v < cntV (nextV gs regs ins v) := by
  have h1 := cntV_le (by rw [next_len, h.len]) h.up
  rcases Nat.lt_or_ge (cntV v) (cntV (nextV gs regs ins v)) with e | e
  · exact e
  · exact absurd (h1.2 (by omega)).symm hn
theorem RoundV.done {gs : List GateM} {regs ins v : List Int} (h : RoundV gs regs ins v) (hf : nextV gs regs ins v = v) : LeastV gs regs ins v := ⟨h.len, hf, h.below⟩
theorem itV_fixed {gs : List GateM} {regs ins : List Int} (n : Nat) : ∀ {v : List Int}, nextV gs regs ins v = v → itV gs regs ins n v = v := by
  induction n with
  | zero => intro v _; rfl
  | succ n ih => intro v h; simp only [itV, h]; exact ih h
theorem itV_least {gs : List GateM} {regs ins : List Int} (n : Nat) : ∀ {v : List Int}, RoundV gs regs ins v → gs.length ≤ n + cntV v → LeastV gs regs ins (itV gs regs ins n v) := by
  induction n with
  | zero =>
    intro v h hn
    refine h.done ?_
    have h1 := cntV_le (by rw [next_len, h.len]) h.up
    have h2 := cntV_max (nextV gs regs ins v)
    rw [next_len] at h2
    exact (h1.2 (by omega)).symm
  | succ n ih =>
    intro v h hn
    by_cases e : nextV gs regs ins v = v
    · rw [itV_fixed _ e]; exact h.done e
    · exact ih h.next (by have := h.more e; omega)
theorem settled_least (gs : List GateM) (regs ins : List Int) : LeastV gs regs ins (settledM gs regs ins) := itV_least _ (RoundV.start gs regs ins) (by omega)
theorem settled_len (gs : List GateM) (regs ins : List Int) : (settledM gs regs ins).length = gs.length := (settled_least gs regs ins).len
theorem itV_good {gs : List GateM} {regs ins : List Int} (hr : goodL regs) (hi : goodL ins) (n : Nat) : ∀ {v : List Int}, goodL v → goodL (itV gs regs ins n v) := by
  induction n with
  | zero => intro v h; exact h
  | succ n ih => intro v h; exact ih (next_good hr hi h)
theorem opens_good (n : Nat) : goodL (opensM n) := fun x hx => by rw [opensM, List.mem_replicate] at hx; exact .inr (.inr hx.2)
theorem settled_good {gs : List GateM} {regs ins : List Int} (hr : goodL regs) (hi : goodL ins) : goodL (settledM gs regs ins) := itV_good hr hi _ (opens_good _)
theorem itV_mono {gs : List GateM} {regs regs' ins ins' : List Int} (hr : regs.length = regs'.length) (hi : ins.length = ins'.length) (h1 : leqM regs regs' = true) (h2 : leqM ins ins' = true) (n : Nat) :
    ∀ {v u : List Int}, v.length = u.length → leqM v u = true → leqM (itV gs regs ins n v) (itV gs regs' ins' n u) = true := by
  induction n with
  | zero => intro v u _ h; exact h
  | succ n ih => intro v u hl h; exact ih (by simp [next_len]) (next_mono hr hi hl h1 h2 h)
theorem settled_mono {gs : List GateM} {regs regs' ins ins' : List Int} (hr : regs.length = regs'.length) (hi : ins.length = ins'.length) (h1 : leqM regs regs' = true) (h2 : leqM ins ins' = true) :
    leqM (settledM gs regs ins) (settledM gs regs' ins') = true := itV_mono hr hi h1 h2 _ rfl (leqM_refl _)
/-! the users of each gate -/
def addUses (u : List (List Int)) (k : Int) (args : List Int) : List (List Int) := args.foldl (fun u a => u.modify a.toNat (· ++ [k])) u
def usersFrom : List GateM → Nat → List (List Int) → List (List Int)
  | [], _, u => u
  | g :: l, k, u => usersFrom l (k + 1) (addUses u k g.args)
def usersM (gs : List GateM) : List (List Int) := usersFrom gs 0 (List.replicate gs.length [])
def useI (u : List (List Int)) (a : Int) : List Int := u[a.toNat]?.getD []
def totalU (u : List (List Int)) : Nat := (u.map List.length).sum
theorem addUses_len (k : Int) (args : List Int) : ∀ u, (addUses u k args).length = u.length := by
  induction args with
  | nil => intro u; rfl
  | cons a l ih => intro u; simp only [addUses, List.foldl_cons] at *; rw [ih]; simp
theorem useI_modify (u : List (List Int)) (a b k : Int) (ha : 0 ≤ a) (hb : 0 ≤ b) : useI (u.modify a.toNat (· ++ [k])) b = if a = b ∧ a < u.length then useI u b ++ [k] else useI u b := by
  unfold useI
  rw [List.getElem?_modify]
  by_cases e : a = b
  · subst e
    rcases Nat.lt_or_ge a.toNat u.length with h | h
    · rw [List.getElem?_eq_getElem h]; rw [if_pos ⟨rfl, by omega⟩]; simp
    · rw [List.getElem?_eq_none h]; rw [if_neg (by omega)]; simp
  · have : ¬ a.toNat = b.toNat := by omega
    simp [this, e]
theorem mem_addUses (k j b : Int) (hb : 0 ≤ b) (args : List Int) : ∀ u : List (List Int), (∀ a ∈ args, 0 ≤ a ∧ a < u.length) → (j ∈ useI (addUses u k args) b ↔ j ∈ useI u b ∨ (j = k ∧ b ∈ args)) := by
  induction args with
  | nil => intro u _; simp [addUses]
  | cons a l ih =>
    intro u h
    have ha := h a (by simp)
    have h2 := ih (u.modify a.toNat (· ++ [k])) (fun x hx => by simpa using h x (by simp [hx]))
    simp only [addUses, List.foldl_cons] at h2 ⊢
    rw [h2, useI_modify u a b k ha.1 hb]
    by_cases e : a = b
    · subst e; rw [if_pos ⟨rfl, ha.2⟩]; simp only [List.mem_append, List.mem_cons, List.not_mem_nil, or_false]
      constructor
      · rintro ((h | h) | h)
        · exact .inl h
        · exact .inr ⟨h, by simp⟩
        · exact .inr ⟨h.1, by simp⟩
      · rintro (h | h)
        · exact .inl (.inl h)
        · exact .inl (.inr h.1)
    · have e' : ¬ b = a := fun x => e x.symm
      rw [if_neg (fun x => e x.1)]; simp [e']
theorem mem_usersFrom {gs : List GateM} (j b : Int) (hb : 0 ≤ b) (ok : ∀ g ∈ gs, ∀ a ∈ g.args, 0 ≤ a ∧ a < gs.length) (l : List GateM) : ∀ (k : Nat) (u : List (List Int)), gs.drop k = l → u.length = gs.length →
    (j ∈ useI (usersFrom l k u) b ↔ j ∈ useI u b ∨ ∃ (i : Nat) (g : GateM), l[i]? = some g ∧ j = ((k + i : Nat) : Int) ∧ b ∈ g.args) := by
  induction l with
  | nil => intro k u _ _; simp [usersFrom]
  | cons g l ih =>
    intro k u hd hu
    have hk : gs[k]? = some g := by
      have : (gs.drop k)[0]? = some g := by rw [hd]; rfl
      simpa using this
    have hd' : gs.drop (k + 1) = l := by rw [← List.drop_drop, hd]; rfl
    simp only [usersFrom]
    rw [ih (k + 1) _ hd' (by rw [addUses_len, hu]), mem_addUses k j b hb g.args u (by rw [hu]; exact ok g (List.mem_of_getElem? hk))]
    constructor
    · rintro ((h | ⟨rfl, h⟩) | ⟨i, x, h1, h2, h3⟩)
      · exact .inl h
      · exact .inr ⟨0, g, rfl, by simp, h⟩
      · exact .inr ⟨i + 1, x, by simpa using h1, by rw [h2]; omega, h3⟩
    · rintro (h | ⟨i, x, h1, h2, h3⟩)
      · exact .inl (.inl h)
      · cases i with
        | zero => simp at h1; subst h1; exact .inl (.inr ⟨by simpa using h2, h3⟩)
        | succ i => exact .inr ⟨i, x, by simpa using h1, by rw [h2]; omega, h3⟩
theorem mem_users {gs : List GateM} (ok : ∀ g ∈ gs, ∀ a ∈ g.args, 0 ≤ a ∧ a < gs.length) {j b : Int} (hb : 0 ≤ b) :
    j ∈ useI (usersM gs) b ↔ ∃ (i : Nat) (g : GateM), gs[i]? = some g ∧ j = (i : Int) ∧ b ∈ g.args := by
  unfold usersM
  rw [mem_usersFrom j b hb ok gs 0 _ rfl (by simp)]
  have : j ∉ useI (List.replicate gs.length []) b := by unfold useI; rw [List.getElem?_replicate]; split <;> simp
  simp [this]
theorem total_modify (k : Int) : ∀ (u : List (List Int)) (i : Nat), totalU (u.modify i (· ++ [k])) ≤ totalU u + 1
  | [], i => by simp [totalU]
  | x :: u, 0 => by simp [totalU]; omega
  | x :: u, i + 1 => by have := total_modify k u i; simp [totalU] at *; omega
theorem total_add (k : Int) (args : List Int) : ∀ u, totalU (addUses u k args) ≤ totalU u + args.length := by
  induction args with
  | nil => intro u; simp [addUses]
  | cons a l ih =>
    intro u
    have h1 := ih (u.modify a.toNat (· ++ [k]))
    have h2 := total_modify k u a.toNat
    simp only [addUses, List.foldl_cons, List.length_cons] at *
    omega
theorem total_from (m : Nat) (l : List GateM) (h : ∀ g ∈ l, g.args.length ≤ m) : ∀ k u, totalU (usersFrom l k u) ≤ totalU u + l.length * m := by
  induction l with
  | nil => intro k u; simp [usersFrom]
  | cons g l ih =>
    intro k u
    have h1 := ih (fun x hx => h x (by simp [hx])) (k + 1) (addUses u k g.args)
    have h2 := total_add k g.args u
    have h3 := h g (by simp)
    have h4 : (l.length + 1) * m = l.length * m + m := Nat.succ_mul _ _
    simp only [usersFrom, List.length_cons, h4]; omega
theorem total_users (m : Nat) (gs : List GateM) (h : ∀ g ∈ gs, g.args.length ≤ m) : totalU (usersM gs) ≤ gs.length * m := by
  have h1 := total_from m gs h 0 (List.replicate gs.length [])
  have h2 : totalU (List.replicate gs.length []) = 0 := by simp [totalU]
  rw [h2] at h1; unfold usersM; omega
/-! the work list -/
structure SInv (gs : List GateM) (regs ins v : List Int) (work : List Int) : Prop where
  len : v.length = gs.length
  good : goodL v
  below : ∀ u : List Int, u.length = gs.length → nextV gs regs ins u = u → leqM v u = true
  asc : ∀ (k : Nat) (g : GateM), gs[k]? = some g → valI v k ≠ 2 → worthM regs ins v g = valI v k
  wait : ∀ (k : Nat) (g : GateM), gs[k]? = some g → valI v k = 2 → (k : Int) ∉ work → worthM regs ins v g = 2
  ws : ∀ k ∈ work, 0 ≤ k ∧ k < gs.length
theorem SInv.start (gs : List GateM) (regs ins : List Int) (work : List Int) (hw : ∀ k : Int, k ∈ work ↔ 0 ≤ k ∧ k < gs.length) : SInv gs regs ins (opensM gs.length) work := by
  refine ⟨by simp [opensM], opens_good _, fun u hu _ => by have := leqM_opens u; rwa [hu] at this, fun k g hk h => absurd ?_ h, fun k g hk _ hn => absurd ?_ hn, fun k hk => (hw k).1 hk⟩
  · have : k < gs.length := (List.getElem?_eq_some_iff.1 hk).1
    simp [valI, opensM, this]
  · have : k < gs.length := (List.getElem?_eq_some_iff.1 hk).1
    exact (hw k).2 (by omega)
theorem SInv.done {gs : List GateM} {regs ins v : List Int} (h : SInv gs regs ins v []) : v = settledM gs regs ins := by
  have hf : nextV gs regs ins v = v := by
    refine val_ext (by rw [next_len, h.len]) fun k hk => ?_
    rw [next_len] at hk
    rw [next_val (List.getElem?_eq_getElem hk)]
    by_cases e : valI v k = 2
    · rw [h.wait k _ (List.getElem?_eq_getElem hk) e (by simp), e]
    · exact h.asc k _ (List.getElem?_eq_getElem hk) e
  exact LeastV.uniq ⟨h.len, hf, h.below⟩ (settled_least _ _ _)
theorem SInv.skip {gs : List GateM} {regs ins v : List Int} {k : Int} {work : List Int} (h : SInv gs regs ins v (k :: work)) (hk : valI v k ≠ 2) : SInv gs regs ins v work :=
  ⟨h.len, h.good, h.below, h.asc, fun j g hj he hn => h.wait j g hj he (fun e => by
    rcases List.mem_cons.1 e with e | e
    · rw [e] at he; exact hk he
    · exact hn e), fun j hj => h.ws j (by simp [hj])⟩
theorem SInv.none {gs : List GateM} {regs ins v : List Int} {k : Int} {work : List Int} {g : GateM} (h : SInv gs regs ins v (k :: work)) (hg : gs[k.toNat]? = some g) (hx : worthM regs ins v g = 2) : SInv gs regs ins v work :=
  ⟨h.len, h.good, h.below, h.asc, fun j g' hj he hn => by
    have h0 := (h.ws k (by simp)).1
    by_cases e : (j : Int) = k
    · have : k.toNat = j := by omega
      rw [this, hj] at hg; injection hg with hg; rw [hg]; exact hx
    · exact h.wait j g' hj he (fun x => by
        rcases List.mem_cons.1 x with x | x
        · exact e x
        · exact hn x), fun j hj => h.ws j (by simp [hj])⟩
theorem valI_set (v : List Int) (k : Int) (x : Int) (j : Nat) (h0 : 0 ≤ k) (h1 : k < v.length) : valI (v.set k.toNat x) j = if (j : Int) = k then x else valI v j := by
  unfold valI
  simp only [Int.toNat_natCast]
  rw [List.getElem?_set]
  by_cases e : (j : Int) = k
  · rw [if_pos (by omega : k.toNat = j), if_pos (by omega), if_pos e]; rfl
  · rw [if_neg (by omega : ¬ k.toNat = j), if_neg e]
theorem worth_other {regs ins v u : List Int} {g : GateM} (h : ∀ a ∈ g.args, valI v a = valI u a) : worthM regs ins v g = worthM regs ins u g := by
  unfold worthM
  have : g.args.map (valI v) = g.args.map (valI u) := List.map_congr_left h
  rw [this]
theorem SInv.settle {gs : List GateM} {regs ins v : List Int} {k : Int} {work : List Int} {g : GateM} (h : SInv gs regs ins v (k :: work)) (hr : goodL regs) (hi : goodL ins) (ok : ∀ g ∈ gs, ∀ a ∈ g.args, 0 ≤ a ∧ a < gs.length)
    (hg : gs[k.toNat]? = some g) (hv : valI v k = 2) (hx : worthM regs ins v g ≠ 2) : SInv gs regs ins (v.set k.toNat (worthM regs ins v g)) (work ++ useI (usersM gs) k) := by
  obtain ⟨h0, h1⟩ := h.ws k (by simp)
  have hs := fun j : Nat => valI_set v k (worthM regs ins v g) j h0 (by rw [h.len]; exact h1)
  have hl : v.length = (v.set k.toNat (worthM regs ins v g)).length := by simp
  have hup : leqM v (v.set k.toNat (worthM regs ins v g)) = true := leqM_of_val hl fun j _ => by
    rw [hs j]; split
    · rename_i e; left; rw [e]; exact hv
    · exact leI.refl _
  have hsame : ∀ (g' : GateM), worthM regs ins v g' ≠ 2 → worthM regs ins (v.set k.toNat (worthM regs ins v g)) g' = worthM regs ins v g' := fun g' hn => by
    rcases worth_mono (regs := regs) (ins := ins) rfl rfl hl (leqM_refl _) (leqM_refl _) hup g' with e | e
    · exact absurd e hn
    · exact e.symm
  refine ⟨by simp [h.len], fun x hx => ?_, fun u hu hf => ?_, fun j g' hj hn => ?_, fun j g' hj he hn => ?_, fun j hj => ?_⟩
  · rcases List.mem_or_eq_of_mem_set hx with e | e
    · exact h.good x e
    · rw [e]; exact worth_good hr hi h.good g
  · have hb := h.below u hu hf
    refine leqM_of_val (by simp [h.len, hu]) fun j hj => ?_
    rw [hs j]; split
    · rename_i e
      rcases worth_mono (regs := regs) (ins := ins) rfl rfl (by rw [h.len, hu]) (leqM_refl _) (leqM_refl _) hb g with e2 | e2
      · exact absurd e2 hx
      · right; rw [e2]
        have hj2 : gs[j]? = some g := by rw [← hg]; congr 1; omega
        have := next_val (regs := regs) (ins := ins) (v := u) hj2
        rw [hf] at this; exact this.symm
    · exact leqM_val (by rw [h.len, hu]) hb j
  · rw [hs j] at hn ⊢
    split
    · rename_i e
      have hj2 : gs[k.toNat]? = some g' := by rw [← hj]; congr 1; omega
      rw [hg] at hj2; injection hj2 with hj2; subst hj2
      exact hsame g hx
    · rename_i e
      rw [if_neg e] at hn
      have ha := h.asc j g' hj hn
      rw [hsame g' (by rw [ha]; exact hn), ha]
  · rw [hs j] at he
    split at he
    · exact absurd he hx
    · rename_i e
      have hn' : (j : Int) ∉ work ∧ (j : Int) ∉ useI (usersM gs) k := by
        exact ⟨fun x => hn (by simp [x]), fun x => hn (by simp [x])⟩
      have hw := h.wait j g' hj he (fun x => by
        rcases List.mem_cons.1 x with x | x
        · exact e x
        · exact hn'.1 x)
      rw [← hw]
      symm
      refine worth_other fun a ha => ?_
      have hak : a ≠ k := fun x => hn'.2 ((mem_users ok h0).2 ⟨j, g', hj, rfl, by rw [← x]; exact ha⟩)
      have ha0 := (ok g' (List.mem_of_getElem? hj) a ha).1
      have := hs a.toNat
      rw [show ((a.toNat : Nat) : Int) = a from by omega] at this
      rw [this, if_neg hak]
  · rcases List.mem_append.1 hj with e | e
    · exact h.ws j (by simp [e])
    · obtain ⟨i, g', hi', rfl, _⟩ := (mem_users ok h0).1 e
      have := (List.getElem?_eq_some_iff.1 hi').1
      omega
/-- What the gates that are not yet settled may still bring. -/
def costV : List (List Int) → List Int → Nat
  | q :: u, x :: v => (if x = 2 then q.length else 0) + costV u v
  | _, _ => 0
theorem costV_set : ∀ (u : List (List Int)) (v : List Int) (k : Nat) (q : List Int) (x : Int), u[k]? = some q → v[k]? = some 2 → x ≠ 2 → costV u (v.set k x) + q.length = costV u v
  | [], _, k, q, _, h, _, _ => by simp at h
  | y :: u, [], k, q, _, _, h, _ => by simp at h
  | y :: u, b :: v, 0, q, x, h, h2, hx => by simp at h h2; subst h; subst h2; simp [costV, hx]; omega
  | y :: u, b :: v, k + 1, q, x, h, h2, hx => by
    have := costV_set u v k q x (by simpa using h) (by simpa using h2) hx
    simp [costV]; omega
theorem costV_le : ∀ (u : List (List Int)) (v : List Int), costV u v ≤ totalU u
  | [], _ => by simp [costV]
  | q :: u, [] => by simp [costV]
  | q :: u, x :: v => by
    have := costV_le u v
    simp only [costV, totalU, List.map_cons, List.sum_cons] at *
    split <;> omega
/-! the law EvalTrue -/
end Go.Proofs.Ytlafiddfplhafaa
/- Levels, in plain Lean: the order by counts of what lacks, and the order by flags, are the same; what is told along an order is what is settled. No program in sight. -/
namespace Go.Proofs.Ytlafiddfplhafaa
set_option linter.unusedVariables false
set_option linter.unusedSimpArgs false
/-- All of args are done. -/
def argsDone (o : List Bool) (g : GateM) : Bool := g.args.all (onI o)
/-- The first gate from k on that is ready. -/
def readyFrom : List GateM → Nat → List Bool → Int
  | [], _, _ => -1
  | g :: l, k, o => if !onI o k && argsDone o g then (k : Int) else readyFrom l (k + 1) o
def readyM (gs : List GateM) (o : List Bool) : Int := readyFrom gs 0 o
def orderFrom (gs : List GateM) : Nat → List Bool → List Int → Option (List Int)
  | 0, _, out => some out
  | n + 1, o, out => if readyM gs o < 0 then none else orderFrom gs n (o.set (readyM gs o).toNat true) (out ++ [readyM gs o])
def orderM (gs : List GateM) : Option (List Int) := orderFrom gs gs.length (List.replicate gs.length false) []
/-! counts of what lacks -/
def lacksG (o : List Bool) (g : GateM) : Int := (g.args.countP (fun a => !onI o a) : Nat)
def lackFrom : List GateM → Nat → List Bool → List Int
  | [], _, _ => []
  | g :: l, k, o => (if onI o k then -1 else lacksG o g) :: lackFrom l (k + 1) o
def lackM (gs : List GateM) (o : List Bool) : List Int := lackFrom gs 0 o
def decAll (L : List Int) (l : List Int) : List Int := l.foldl (fun L k => L.modify k.toNat (· - 1)) L
def zeroAt : List Int → Int → Int
  | [], _ => -1
  | x :: l, k => if x = 0 then k else zeroAt l (k + 1)
theorem lackFrom_len (l : List GateM) : ∀ k o, (lackFrom l k o).length = l.length := by
  induction l with
  | nil => intro k o; rfl
  | cons g l ih => intro k o; simp [lackFrom, ih]
theorem lackFrom_at (l : List GateM) (o : List Bool) : ∀ (k j : Nat) (g : GateM), l[j]? = some g → (lackFrom l k o)[j]? = some (if onI o ((k + j : Nat) : Int) then -1 else lacksG o g) := by
  induction l with
  | nil => intro k j g h; simp at h
  | cons x l ih =>
    intro k j g h
    cases j with
    | zero => simp at h; subst h; simp [lackFrom]
    | succ j => simp only [lackFrom, List.getElem?_cons_succ]; rw [ih (k + 1) j g (by simpa using h), show k + 1 + j = k + (j + 1) from by omega]
theorem lackM_at {gs : List GateM} {o : List Bool} {j : Nat} {g : GateM} (h : gs[j]? = some g) : (lackM gs o)[j]? = some (if onI o j then -1 else lacksG o g) := by
  have := lackFrom_at gs o 0 j g h; simpa [lackM] using this
theorem lacks_zero (o : List Bool) (g : GateM) : (lacksG o g = 0) = (argsDone o g = true) := by
  unfold lacksG argsDone
  rw [eq_iff_iff]
  constructor
  · intro h
    have h0 : g.args.countP (fun a => !onI o a) = 0 := by omega
    rw [List.countP_eq_zero] at h0
    rw [List.all_eq_true]
    exact fun a ha => by have := h0 a ha; simpa using this
  · intro h
    rw [List.all_eq_true] at h
    have h0 : g.args.countP (fun a => !onI o a) = 0 := by
      rw [List.countP_eq_zero]; exact fun a ha => by simp [h a ha]
    omega
theorem zeroAt_lack (l : List GateM) (o : List Bool) : ∀ k : Nat, zeroAt (lackFrom l k o) k = readyFrom l k o := by
  induction l with
  | nil => intro k; rfl
  | cons g l ih =>
    intro k
    have h1 := ih (k + 1)
    simp only [lackFrom, zeroAt, readyFrom]
    rw [show ((k : Int) + 1) = ((k + 1 : Nat) : Int) from by omega, h1]
    cases e : onI o k with
    | true => simp
    | false =>
      simp only [Bool.false_eq_true, if_false, Bool.not_false, Bool.true_and]
      have := lacks_zero o g
      by_cases h : argsDone o g = true
      · rw [if_pos (by rw [this]; exact h), if_pos h]
      · rw [if_neg (by rw [this]; exact h), if_neg h]
theorem zeroAt_lackM (gs : List GateM) (o : List Bool) : zeroAt (lackM gs o) 0 = readyM gs o := zeroAt_lack gs o 0
theorem readyFrom_spec (gs : List GateM) (o : List Bool) (l : List GateM) : ∀ k : Nat, gs.drop k = l → readyFrom l k o = -1 ∨
    ∃ (j : Nat) (g : GateM), readyFrom l k o = (j : Int) ∧ k ≤ j ∧ gs[j]? = some g ∧ onI o j = false ∧ argsDone o g = true := by
  induction l with
  | nil => intro k _; exact .inl rfl
  | cons g l ih =>
    intro k hd
    have hk : gs[k]? = some g := by
      have : (gs.drop k)[0]? = some g := by rw [hd]; rfl
      simpa using this
    have hd' : gs.drop (k + 1) = l := by rw [← List.drop_drop, hd]; rfl
    simp only [readyFrom]
    by_cases h : (!onI o k && argsDone o g) = true
    · rw [if_pos h]
      simp only [Bool.and_eq_true, Bool.not_eq_true'] at h
      exact .inr ⟨k, g, rfl, Nat.le_refl _, hk, h.1, h.2⟩
    · rw [if_neg h]
      rcases ih (k + 1) hd' with e | ⟨j, x, h1, h2, h3⟩
      · exact .inl e
      · exact .inr ⟨j, x, h1, by omega, h3⟩
theorem readyM_spec (gs : List GateM) (o : List Bool) : readyM gs o = -1 ∨ ∃ (j : Nat) (g : GateM), readyM gs o = (j : Int) ∧ gs[j]? = some g ∧ onI o j = false ∧ argsDone o g = true := by
  rcases readyFrom_spec gs o gs 0 rfl with e | ⟨j, g, h1, _, h3⟩
  · exact .inl e
  · exact .inr ⟨j, g, h1, h3⟩
/-- If a gate is ready, the first that is ready is one. -/
theorem readyFrom_some (gs : List GateM) (o : List Bool) (l : List GateM) : ∀ (k j : Nat) (g : GateM), l[j]? = some g → onI o ((k + j : Nat) : Int) = false → argsDone o g = true → 0 ≤ readyFrom l k o := by
  induction l with
  | nil => intro k j g h; simp at h
  | cons x l ih =>
    intro k j g h h1 h2
    simp only [readyFrom]
    by_cases hx : (!onI o k && argsDone o x) = true
    · rw [if_pos hx]; omega
    · rw [if_neg hx]
      cases j with
      | zero => simp at h h1; subst h; simp [h1, h2] at hx
      | succ j => exact ih (k + 1) j g (by simpa using h) (by rw [show k + 1 + j = k + (j + 1) from by omega]; exact h1) h2
theorem count_addUses (k j b : Int) (hb : 0 ≤ b) (args : List Int) : ∀ u : List (List Int), (∀ a ∈ args, 0 ≤ a ∧ a < u.length) → (useI (addUses u k args) b).count j = (useI u b).count j + if j = k then args.count b else 0 := by
  induction args with
  | nil => intro u _; simp [addUses]
  | cons a l ih =>
    intro u h
    have ha := h a (by simp)
    have h2 := ih (u.modify a.toNat (· ++ [k])) (fun x hx => by simpa using h x (by simp [hx]))
    simp only [addUses, List.foldl_cons] at h2 ⊢
    rw [h2, useI_modify u a b k ha.1 hb]
    by_cases e : a = b
    · subst e; rw [if_pos ⟨rfl, ha.2⟩, List.count_append, List.count_cons, List.count_cons]
      by_cases hj : j = k
      · subst hj; simp; omega
      · have hj' : ¬ k = j := fun x => hj x.symm
        simp [hj, hj']
    · rw [if_neg (fun x => e x.1), List.count_cons]; simp [e]
theorem count_usersFrom {gs : List GateM} (j b : Int) (hb : 0 ≤ b) (ok : okArgs gs) (l : List GateM) : ∀ (k : Nat) (u : List (List Int)), gs.drop k = l → u.length = gs.length →
    (useI (usersFrom l k u) b).count j = (useI u b).count j + if (k : Int) ≤ j then ((l[(j - k).toNat]?.map (·.args)).getD []).count b else 0 := by
  induction l with
  | nil => intro k u _ _; simp [usersFrom]
  | cons g l ih =>
    intro k u hd hu
    have hk : gs[k]? = some g := by
      have : (gs.drop k)[0]? = some g := by rw [hd]; rfl
      simpa using this
    have hd' : gs.drop (k + 1) = l := by rw [← List.drop_drop, hd]; rfl
    simp only [usersFrom]
    rw [ih (k + 1) _ hd' (by rw [addUses_len, hu]), count_addUses k j b hb g.args u (by rw [hu]; exact ok g (List.mem_of_getElem? hk))]
    by_cases e : j = k
    · subst e; rw [if_pos rfl, if_neg (by omega), if_pos (by omega)]; simp
    · rw [if_neg e]
      by_cases h : (k : Int) ≤ j
      · rw [if_pos (by omega), if_pos h, show (j - k).toNat = (j - ((k + 1 : Nat) : Int)).toNat + 1 from by omega]; simp
      · rw [if_neg (by omega), if_neg h]
theorem count_users {gs : List GateM} (ok : okArgs gs) {b : Int} (hb : 0 ≤ b) (j : Nat) : (useI (usersM gs) b).count (j : Int) = (argsI gs j).count b := by
  unfold usersM
  rw [count_usersFrom j b hb ok gs 0 _ rfl (by simp), if_pos (by omega)]
  have : useI (List.replicate gs.length ([] : List Int)) b = [] := by unfold useI; rw [List.getElem?_replicate]; split <;> rfl
  simp [this, argsI]
theorem decAll_len (l : List Int) : ∀ L, (decAll L l).length = L.length := by
  induction l with
  | nil => intro L; rfl
  | cons a l ih => intro L; simp only [decAll, List.foldl_cons] at *; rw [ih]; simp
theorem decAll_at (l : List Int) (h0 : ∀ a ∈ l, 0 ≤ a) : ∀ (L : List Int) (j : Nat) (x : Int), L[j]? = some x → (decAll L l)[j]? = some (x - (l.count (j : Int) : Nat)) := by
  induction l with
  | nil => intro L j x h; simp [decAll, h]
  | cons a l ih =>
    intro L j x h
    have ha := h0 a (by simp)
    have ih' := ih (fun y hy => h0 y (by simp [hy]))
    simp only [decAll, List.foldl_cons] at *
    by_cases e : a = j
    · subst e
      rw [ih' (L.modify (j : Int).toNat (· - 1)) j (x - 1) (by simp [h])]
      simp; omega
    · have : ¬ a.toNat = j := by omega
      rw [ih' (L.modify a.toNat (· - 1)) j x (by simp [h, this])]
      rw [List.count_cons]; simp [e]
theorem countP_set {o : List Bool} {k : Int} (h0 : 0 ≤ k) (h1 : k < o.length) (hk : onI o k = false) (l : List Int) (hl : ∀ a ∈ l, 0 ≤ a) :
    l.countP (fun a => !onI o a) = l.countP (fun a => !onI (o.set k.toNat true) a) + l.count k := by
  induction l with
  | nil => rfl
  | cons a l ih =>
    have ih := ih (fun x hx => hl x (by simp [hx]))
    have hs := onI_set o k a h0 h1 (hl a (by simp))
    rw [List.countP_cons, List.countP_cons, List.count_cons, hs, ih]
    by_cases e : a = k
    · subst e; simp [hk]; omega
    · simp [e]; omega
/-- One more is done: the counts that the loop leaves. -/
theorem lack_step {gs : List GateM} {o : List Bool} {k : Nat} {g : GateM} (ok : okArgs gs) (ho : o.length = gs.length) (hg : gs[k]? = some g) (hk : onI o k = false) (hd : argsDone o g = true)
    (hc : ∀ (j : Nat) (x : GateM), gs[j]? = some x → onI o j = true → argsDone o x = true) :
    decAll ((lackM gs o).set k (-1)) (useI (usersM gs) k) = lackM gs (o.set k true) := by
  have hkl : k < gs.length := (List.getElem?_eq_some_iff.1 hg).1
  have hu : ∀ a ∈ useI (usersM gs) (k : Int), 0 ≤ a := fun a ha => by
    obtain ⟨i, _, _, rfl, _⟩ := (mem_users ok (by omega)).1 ha; omega
  refine List.ext_getElem? fun j => ?_
  rcases Nat.lt_or_ge j gs.length with hj | hj
  · have hgj := List.getElem?_eq_getElem hj
    generalize gs[j] = x at hgj
    have hlj := lackM_at (o := o) hgj
    have hon := onI_set o k j (by omega) (by omega) (by omega)
    rw [Int.toNat_natCast] at hon
    rw [lackM_at hgj, hon]
    have hcnt : (useI (usersM gs) k).count (j : Int) = x.args.count (k : Int) := by rw [count_users ok (by omega)]; simp [argsI, hgj]
    by_cases e : j = k
    · subst e
      rw [hg] at hgj; injection hgj with hgj; subst hgj
      rw [decAll_at _ hu _ j (-1) (by rw [List.getElem?_set]; simp [lackM, lackFrom_len, hkl]), hcnt]
      have : g.args.count (j : Int) = 0 := by
        rw [List.count_eq_zero]; intro hm
        unfold argsDone at hd; rw [List.all_eq_true] at hd
        rw [hd _ hm] at hk; cases hk
      rw [this]; simp
    · have e' : ¬ (j : Int) = (k : Int) := by omega
      rw [decAll_at _ hu _ j _ (by rw [List.getElem?_set, if_neg (fun x => e x.symm), hlj]), hcnt]
      simp only [e', decide_false, Bool.or_false]
      cases hoj : onI o j with
      | true =>
        have := hc j x hgj hoj
        have h0 : x.args.count (k : Int) = 0 := by
          rw [List.count_eq_zero]; intro hm
          unfold argsDone at this; rw [List.all_eq_true] at this
          rw [this _ hm] at hk; cases hk
        simp [h0]
      | false =>
        simp only [Bool.false_eq_true, if_false]
        have := countP_set (o := o) (k := (k : Int)) (by omega) (by omega) hk x.args (fun a ha => (ok x (List.mem_of_getElem? hgj) a ha).1)
        rw [Int.toNat_natCast] at this
        unfold lacksG; congr 1; omega
  · rw [List.getElem?_eq_none (by rw [decAll_len]; simp [lackM, lackFrom_len]; omega), List.getElem?_eq_none (by simp [lackM, lackFrom_len]; omega)]
/-! along an order -/
/-- What is done is done with its args. -/
def ClosedD (gs : List GateM) (o : List Bool) : Prop := ∀ (j : Nat) (x : GateM), gs[j]? = some x → onI o j = true → argsDone o x = true
/-- An order of what is left. -/
def OrdM (gs : List GateM) : List Bool → List Int → Prop
  | _, [] => True
  | o, k :: l => 0 ≤ k ∧ (∃ g, gs[k.toNat]? = some g ∧ onI o k = false ∧ argsDone o g = true) ∧ OrdM gs (o.set k.toNat true) l
theorem argsDone_set {o : List Bool} {k : Nat} {x : GateM} (h : argsDone o x = true) : argsDone (o.set k true) x = true := by
  unfold argsDone at *; rw [List.all_eq_true] at *
  exact fun a ha => subB_at _ (subB_set o k) (h a ha)
theorem closed_step {gs : List GateM} {o : List Bool} {k : Nat} {g : GateM} (hc : ClosedD gs o) (ho : o.length = gs.length) (hg : gs[k]? = some g) (hd : argsDone o g = true) : ClosedD gs (o.set k true) := by
  intro j x hj hon
  by_cases e : j = k
  · subst e; rw [hg] at hj; injection hj with hj; subst hj; exact argsDone_set hd
  · refine argsDone_set (hc j x hj ?_)
    have := onI_set o k j (by omega) (by have := (List.getElem?_eq_some_iff.1 hg).1; omega) (by omega)
    rw [Int.toNat_natCast] at this
    rw [this] at hon
    have e' : ¬ (j : Int) = (k : Int) := by omega
    simpa [e'] using hon
theorem closed_none (gs : List GateM) (n : Nat) : ClosedD gs (List.replicate n false) := fun j x _ h => by rw [onI_none] at h; cases h
theorem orderFrom_ord (gs : List GateM) (n : Nat) : ∀ (o : List Bool) (out l : List Int), orderFrom gs n o out = some l → ∃ r, l = out ++ r ∧ r.length = n ∧ OrdM gs o r := by
  induction n with
  | zero => intro o out l h; simp [orderFrom] at h; exact ⟨[], by simp [h], rfl, trivial⟩
  | succ n ih =>
    intro o out l h
    simp only [orderFrom] at h
    split at h
    · cases h
    · rename_i hr
      obtain ⟨r, h1, h2, h3⟩ := ih _ _ _ h
      rcases readyM_spec gs o with e | ⟨j, g, e1, e2, e3, e4⟩
      · omega
      · refine ⟨readyM gs o :: r, by simp [h1], by simp [h2], by omega, ⟨g, ?_, ?_, e4⟩, h3⟩
        · rw [e1]; simpa using e2
        · rw [e1]; exact e3
theorem orderM_ord {gs : List GateM} {l : List Int} (h : orderM gs = some l) : l.length = gs.length ∧ OrdM gs (List.replicate gs.length false) l := by
  obtain ⟨r, h1, h2, h3⟩ := orderFrom_ord _ _ _ _ _ h
  simp at h1; subst h1; exact ⟨h2, h3⟩
theorem cnt_set {o : List Bool} : ∀ {k : Nat}, o[k]? = some false → cnt (o.set k true) = cnt o + 1 := by
  induction o with
  | nil => intro k h; simp at h
  | cons x o ih =>
    intro k h
    cases k with
    | zero => simp at h; subst h; simp [cnt]
    | succ k => have := ih (k := k) (by simpa using h); simp only [cnt, List.set_cons_succ, List.countP_cons] at *; omega
theorem off_some {o : List Bool} {k : Int} (h : onI o k = false) (hl : k.toNat < o.length) : o[k.toNat]? = some false := by
  unfold onI at h; rw [List.getElem?_eq_getElem hl] at h ⊢; simpa using h
/-- Where an order ends, all are done. -/
theorem OrdM.all {gs : List GateM} : ∀ {l : List Int} {o : List Bool}, OrdM gs o l → o.length = gs.length → ∃ o' : List Bool, o' = l.foldl (fun o k => o.set k.toNat true) o ∧ o'.length = gs.length ∧ cnt o' = cnt o + l.length
  | [], o, _, ho => ⟨o, rfl, ho, rfl⟩
  | k :: l, o, h, ho => by
    obtain ⟨h0, ⟨g, hg, hon, _⟩, h3⟩ := h
    have hk : k.toNat < o.length := by have := (List.getElem?_eq_some_iff.1 hg).1; omega
    obtain ⟨o', h1, h2, h4⟩ := OrdM.all h3 (by simp [ho])
    exact ⟨o', by simpa using h1, h2, by rw [h4, cnt_set (off_some hon hk)]; simp; omega⟩
theorem all_on {o : List Bool} (h : cnt o = o.length) (k : Nat) (hk : k < o.length) : onI o k = true := by
  have := List.countP_eq_length.1 h o[k] (List.getElem_mem hk)
  simpa [onI, List.getElem?_eq_getElem hk] using this
/-! what is told along an order -/
def alongM (gs : List GateM) (regs ins : List Int) : List Int → List Int → List Int
  | [], v => v
  | k :: l, v => alongM gs regs ins l (v.set k.toNat (worthM regs ins v ((gs[k.toNat]?).getD ⟨0, 0, []⟩)))
theorem along_len (gs : List GateM) (regs ins : List Int) : ∀ (l v : List Int), (alongM gs regs ins l v).length = v.length
  | [], v => rfl
  | k :: l, v => by simp only [alongM]; rw [along_len gs regs ins l]; simp
theorem along_solves {gs : List GateM} {regs ins : List Int} (ok : okArgs gs) : ∀ (l : List Int) (o : List Bool) (v : List Int), OrdM gs o l → o.length = gs.length → v.length = gs.length → ClosedD gs o →
    (∀ (j : Nat) (x : GateM), gs[j]? = some x → onI o j = true → worthM regs ins v x = valI v j) →
    ∀ (j : Nat) (x : GateM), gs[j]? = some x → onI (l.foldl (fun o k => o.set k.toNat true) o) j = true → worthM regs ins (alongM gs regs ins l v) x = valI (alongM gs regs ins l v) j
  | [], _, _, _, _, _, _, h => h
  | k :: l, o, v, hO, ho, hv, hc, h => by
    obtain ⟨h0, ⟨g, hg, hon, hd⟩, h3⟩ := hO
    have hkl := (List.getElem?_eq_some_iff.1 hg).1
    have hk1 : k < gs.length := by omega
    refine along_solves ok l _ _ h3 (by simp [ho]) (by simp [hv]) (closed_step hc ho hg hd) (fun j x hj hoj => ?_)
    rw [hg, Option.getD_some]
    have hs := fun i : Nat => valI_set v k (worthM regs ins v g) i h0 (by omega)
    have hon' := onI_set o k j h0 (by omega) (by omega)
    rw [hon'] at hoj
    have hsame : ∀ y : GateM, y ∈ gs → argsDone o y = true → worthM regs ins (v.set k.toNat (worthM regs ins v g)) y = worthM regs ins v y := fun y hy hdy => by
      refine worth_other fun a ha => ?_
      have ha0 := (ok y hy a ha).1
      have := hs a.toNat
      rw [show ((a.toNat : Nat) : Int) = a from by omega] at this
      rw [this, if_neg]
      intro e
      unfold argsDone at hdy; rw [List.all_eq_true] at hdy
      have := hdy a ha; rw [e, hon] at this; cases this
    rw [hs j]
    by_cases e : (j : Int) = k
    · have : j = k.toNat := by omega
      subst this
      rw [hg] at hj; injection hj with hj; subst hj
      rw [if_pos e, hsame g (List.mem_of_getElem? hg) hd]
    · rw [if_neg e]
      have hoj' : onI o j = true := by simpa [e] using hoj
      rw [hsame x (List.mem_of_getElem? hj) (hc j x hj hoj'), h j x hj hoj']
/-- What is told along an order solves. -/
theorem along_fix {gs : List GateM} {regs ins l v : List Int} (ok : okArgs gs) (h : orderM gs = some l) (hv : v.length = gs.length) : nextV gs regs ins (alongM gs regs ins l v) = alongM gs regs ins l v := by
  obtain ⟨hl, hO⟩ := orderM_ord h
  obtain ⟨o', h1, h2, h3⟩ := OrdM.all hO (by simp)
  have hz : cnt (List.replicate gs.length false) = 0 := by simp [cnt]
  refine val_ext (by rw [next_len, along_len, hv]) fun j hj => ?_
  rw [next_len] at hj
  rw [next_val (List.getElem?_eq_getElem hj)]
  refine along_solves ok l _ v hO (by simp) hv (closed_none _ _) (fun j x _ h => by rw [onI_none] at h; cases h) j _ (List.getElem?_eq_getElem hj) ?_
  rw [← h1]
  exact all_on (by omega) j (by omega)
/-- Where there is an order, nothing else solves. -/
theorem order_agree {gs : List GateM} {regs ins u v : List Int} (ok : okArgs gs) (hu : u.length = gs.length) (hv : v.length = gs.length) (fu : nextV gs regs ins u = u) (fv : nextV gs regs ins v = v) : ∀ (l : List Int) (o : List Bool), OrdM gs o l → o.length = gs.length →
    (∀ j : Nat, j < gs.length → onI o j = true → valI u j = valI v j) → ∀ j : Nat, j < gs.length → onI (l.foldl (fun o k => o.set k.toNat true) o) j = true → valI u j = valI v j
  | [], _, _, _, h => h
  | k :: l, o, hO, ho, h => by
    obtain ⟨h0, ⟨g, hg, hon, hd⟩, h3⟩ := hO
    have hkl := (List.getElem?_eq_some_iff.1 hg).1
    refine order_agree ok hu hv fu fv l _ h3 (by simp [ho]) (fun j hj hoj => ?_)
    have hon' := onI_set o k j h0 (by omega) (by omega)
    rw [hon'] at hoj
    by_cases e : (j : Int) = k
    · have : j = k.toNat := by omega
      subst this
      have e1 := next_val (regs := regs) (ins := ins) (v := u) hg
      have e2 := next_val (regs := regs) (ins := ins) (v := v) hg
      rw [fu] at e1; rw [fv] at e2
      rw [e1, e2]
      refine worth_other fun a ha => ?_
      have ha0 := ok g (List.mem_of_getElem? hg) a ha
      unfold argsDone at hd; rw [List.all_eq_true] at hd
      have h4 := h a.toNat (by omega)
      rw [show ((a.toNat : Nat) : Int) = a from by omega] at h4
      exact h4 (hd a ha)
    · exact h j hj (by simpa [e] using hoj)
theorem order_one {gs : List GateM} {regs ins u v l : List Int} (ok : okArgs gs) (h : orderM gs = some l) (hu : u.length = gs.length) (hv : v.length = gs.length) (fu : nextV gs regs ins u = u) (fv : nextV gs regs ins v = v) : u = v := by
  obtain ⟨hl, hO⟩ := orderM_ord h
  obtain ⟨o', h1, h2, h3⟩ := OrdM.all hO (by simp)
  have hz : cnt (List.replicate gs.length false) = 0 := by simp [cnt]
  refine val_ext (by rw [hu, hv]) fun j hj => ?_
  refine order_agree ok hu hv fu fv l _ hO (by simp) (fun j _ h => by rw [onI_none] at h; cases h) j (by omega) ?_
  rw [← h1]
  exact all_on (by omega) j (by omega)
theorem along_settled {gs : List GateM} {regs ins l v : List Int} (ok : okArgs gs) (h : orderM gs = some l) (hv : v.length = gs.length) : alongM gs regs ins l v = settledM gs regs ins :=
  order_one ok h (by rw [along_len, hv]) (settled_len _ _ _) (along_fix ok h hv) (settled_least _ _ _).fix
theorem notM_shut {x : Int} (h : x = 0 ∨ x = 1) : notM x ≠ 2 := by rcases h with rfl | rfl <;> decide
theorem val_shut {l : List Int} (h : (2 : Int) ∉ l) (k : Int) : valI l k ≠ 2 := by
  unfold valI
  cases e : l[k.toNat]? with
  | none => simp
  | some x => intro e2; simp at e2; subst e2; exact h (List.mem_of_getElem? e)
theorem worth_shut {regs ins v : List Int} {g : GateM} (hr : (2 : Int) ∉ regs) (hi : (2 : Int) ∉ ins) (hv : ∀ a ∈ g.args, valI v a = 0 ∨ valI v a = 1) : worthM regs ins v g ≠ 2 := by
  unfold worthM
  split
  · decide
  split
  · decide
  split
  · exact val_shut hi _
  split
  · exact val_shut hr _
  have hm : (2 : Int) ∉ g.args.map (valI v) := fun hm => by
    obtain ⟨a, ha, e⟩ := List.mem_map.1 hm
    rcases hv a ha with h | h <;> omega
  unfold ofM
  split
  · rw [gatherM_eq 0 (by decide), if_neg hm]; split <;> decide
  split
  · rw [gatherM_eq 1 (by decide), if_neg hm]; split <;> decide
  · cases hg : g.args with
    | nil => exact notM_shut (.inl rfl)
    | cons a l => exact notM_shut (hv a (by rw [hg]; simp))
theorem order_shut_on {gs : List GateM} {regs ins v : List Int} (ok : okArgs gs) (gr : goodL regs) (gi : goodL ins) (gv : goodL v) (hr : (2 : Int) ∉ regs) (hi : (2 : Int) ∉ ins) (fv : nextV gs regs ins v = v) : ∀ (l : List Int) (o : List Bool), OrdM gs o l → o.length = gs.length →
    (∀ j : Nat, j < gs.length → onI o j = true → valI v j ≠ 2) → ∀ j : Nat, j < gs.length → onI (l.foldl (fun o k => o.set k.toNat true) o) j = true → valI v j ≠ 2
  | [], _, _, _, h => h
  | k :: l, o, hO, ho, h => by
    obtain ⟨h0, ⟨g, hg, hon, hd⟩, h3⟩ := hO
    have hkl := (List.getElem?_eq_some_iff.1 hg).1
    refine order_shut_on ok gr gi gv hr hi fv l _ h3 (by simp [ho]) (fun j hj hoj => ?_)
    rw [onI_set o k j h0 (by omega) (by omega)] at hoj
    by_cases e : (j : Int) = k
    · have : j = k.toNat := by omega
      subst this
      have e1 := next_val (regs := regs) (ins := ins) (v := v) hg
      rw [fv] at e1
      rw [e1]
      refine worth_shut hr hi fun a ha => ?_
      have ha0 := ok g (List.mem_of_getElem? hg) a ha
      unfold argsDone at hd; rw [List.all_eq_true] at hd
      have h4 := h a.toNat (by omega)
      rw [show ((a.toNat : Nat) : Int) = a from by omega] at h4
      have h5 := h4 (hd a ha)
      rcases valI_good gv a with h6 | h6 | h6
      · exact .inl h6
      · exact .inr h6
      · exact absurd h6 h5
    · exact h j hj (by simpa [e] using hoj)
/-- Where there is an order, nothing is open if nothing that is handed in is. -/
theorem order_shut {gs : List GateM} {regs ins l : List Int} (ok : okArgs gs) (h : orderM gs = some l) (gr : goodL regs) (gi : goodL ins) (hr : (2 : Int) ∉ regs) (hi : (2 : Int) ∉ ins) : (2 : Int) ∉ settledM gs regs ins := by
  obtain ⟨hl, hO⟩ := orderM_ord h
  obtain ⟨o', h1, h2, h3⟩ := OrdM.all hO (by simp)
  have hz : cnt (List.replicate gs.length false) = 0 := by simp [cnt]
  intro hm
  obtain ⟨j, hj⟩ := List.mem_iff_getElem?.1 hm
  have hjl := (List.getElem?_eq_some_iff.1 hj).1
  rw [settled_len] at hjl
  refine order_shut_on ok gr gi (settled_good gr gi) hr hi (settled_least _ _ _).fix l _ hO (by simp) (fun j _ h => by rw [onI_none] at h; cases h) j hjl ?_ (by simp [valI, hj])
  rw [← h1]
  exact all_on (by omega) j (by omega)
/-- Where each gate's args stand ahead of it, there is an order. -/
theorem order_of_ahead {gs : List GateM} (h : ∀ (k : Nat) (g : GateM), gs[k]? = some g → ∀ a ∈ g.args, 0 ≤ a ∧ a < k) : ∀ (n : Nat) (o : List Bool) (out : List Int), o.length = gs.length → cnt o + n = gs.length → ∃ l, orderFrom gs n o out = some l
  | 0, o, out, _, _ => ⟨out, rfl⟩
  | n + 1, o, out, ho, hc => by
    have hex : ∃ j : Nat, j < gs.length ∧ onI o j = false ∧ ∀ i : Nat, i < j → onI o i = true := by
      have : ∀ m : Nat, m ≤ gs.length → (∀ i : Nat, i < m → onI o i = true) ∨ ∃ j : Nat, j < gs.length ∧ onI o j = false ∧ ∀ i : Nat, i < j → onI o i = true := by
        intro m
        induction m with
        | zero => exact fun _ => .inl fun i hi => by omega
        | succ m ih =>
          intro hm
          rcases ih (by omega) with e | e
          · cases hb : onI o m with
            | false => exact .inr ⟨m, by omega, hb, e⟩
            | true =>
              refine .inl fun i hi => ?_
              rcases Nat.lt_or_ge i m with h1 | h1
              · exact e i h1
              · have : i = m := by omega
                subst this; exact hb
          · exact .inr e
      rcases this gs.length (Nat.le_refl _) with e | e
      · have : cnt o = o.length := List.countP_eq_length.2 fun b hb => by
          obtain ⟨i, hi⟩ := List.mem_iff_getElem?.1 hb
          have hil := (List.getElem?_eq_some_iff.1 hi).1
          have := e i (by omega)
          simpa [onI, hi] using this
        omega
      · exact e
    obtain ⟨j, hj, hoff, hlow⟩ := hex
    have hg := List.getElem?_eq_getElem hj
    have hr : 0 ≤ readyM gs o := readyFrom_some gs o gs 0 j _ hg (by simpa using hoff) (by
      unfold argsDone; rw [List.all_eq_true]; intro a ha
      have := h j _ hg a ha
      have h2 := hlow a.toNat (by omega)
      rwa [show ((a.toNat : Nat) : Int) = a from by omega] at h2)
    simp only [orderFrom]
    rw [if_neg (by omega)]
    refine order_of_ahead h n _ _ (by simp [ho]) ?_
    rcases readyM_spec gs o with e | ⟨i, g, e1, e2, e3, e4⟩
    · omega
    · have hil := (List.getElem?_eq_some_iff.1 e2).1
      rw [e1, Int.toNat_natCast, cnt_set (by have := off_some e3 (by simpa [ho] using hil); simpa using this)]
      omega
end Go.Proofs.Ytlafiddfplhafaa
