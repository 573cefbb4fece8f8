/- Aids for a row's closed facts in a large translation: piece by piece, and 'recurses' by one witness. -/
import Derived.Test.YtjagbnaacfhokaaChecked
import Derived.ProofKit
import Derived.WalkKit
import Derived.WalkLawsBesides
import Derived.WalkSpells
import Derived.Deep.QuietTactic
import Derived.BigQuiet
import Derived.Lib.Hide
import Derived.Deep.LoopGhost
import Derived.Deep.Draws
import Derived.Laws.OwnMore
import Derived.Deep.AppendLies
import Derived.Laws.Rows
import Derived.Deep.Slices
import Derived.Deep.Fields
import Derived.ChangeSame
import Derived.OpenShut
import Derived.SizedLaws
namespace Go.Proofs.Ytjagbnaacfhokaa
set_option linter.unusedVariables false
set_option linter.unusedSimpArgs false
theorem band {a b : Bool} (h : a = true) (k : b = true) : (a && b) = true := by rw [h, k]; rfl
theorem recurses_of {P : Program} {f : FuncId} (g h : FuncId) (h1 : (P.closure f).contains g = true) (h2 : ((P.funcs[g]?).elim [] P.leadsTo).contains h = true) (h3 : (P.closure h).contains g = true) : P.recurses f = true := by
  unfold Program.recurses
  rw [Bool.or_eq_true]; right
  rw [List.any_eq_true]
  refine ⟨g, by simpa using h1, ?_⟩
  rw [List.any_eq_true]
  exact ⟨h, by simpa using h2, h3⟩
end Go.Proofs.Ytjagbnaacfhokaa
/- The head of the translation: which words it opens with, and the facts of each row that hang on them. -/
namespace Go.Proofs.Ytjagbnaacfhokaa
set_option linter.unusedVariables false
set_option linter.unusedSimpArgs false
def headH : List Nat := [104, 97, 114, 110, 101, 115, 115]
def headS : List Nat := [97, 55, 53, 53, 97, 52, 54, 100, 100, 101, 51, 51, 101, 56, 54, 102, 53, 102, 102, 99, 100, 98, 48, 48, 48, 55, 48, 98, 101, 57, 49, 54, 97, 102, 98, 48, 57, 50, 54, 100, 48, 49, 56, 101, 101, 102, 54, 56, 98, 57, 102, 99, 48, 48, 48, 98, 100, 51, 56, 52, 49, 50, 53, 52]
def headC : List Nat := [99, 117, 116]
def headR : List Nat := [97, 116, 32, 108, 105, 110, 99, 104, 112, 105, 110, 47, 108, 105, 110, 99, 104, 112, 105, 110, 108, 97, 119, 46, 78, 101, 116, 84, 114, 117, 101, 32, 108, 105, 110, 99, 104, 112, 105, 110, 47, 108, 105, 110, 99, 104, 112, 105, 110, 108, 97, 119, 46, 69, 118, 97, 108, 83, 116, 101, 112, 115, 32, 108, 105, 110, 99, 104, 112, 105, 110, 47, 108, 105, 110, 99, 104, 112, 105, 110, 108, 97, 119, 46, 69, 118, 97, 108, 83, 111, 108, 118, 101, 115, 32, 108, 105, 110, 99, 104, 112, 105, 110, 47, 108, 105, 110, 99, 104, 112, 105, 110, 108, 97, 119, 46, 76, 101, 118, 101, 108, 79, 114, 100, 101, 114, 115, 32, 108, 105, 110, 99, 104, 112, 105, 110, 47, 108, 105, 110, 99, 104, 112, 105, 110, 108, 97, 119, 46, 76, 101, 118, 101, 108, 84, 114, 117, 101, 32, 108, 105, 110, 99, 104, 112, 105, 110, 47, 108, 105, 110, 99, 104, 112, 105, 110, 108, 97, 119, 46, 69, 118, 97, 108, 84, 114, 117, 101, 32, 108, 105, 110, 99, 104, 112, 105, 110, 47, 108, 105, 110, 99, 104, 112, 105, 110, 108, 97, 119, 46, 69, 118, 97, 108, 77, 111, 114, 101, 32, 108, 105, 110, 99, 104, 112, 105, 110, 47, 108, 105, 110, 99, 104, 112, 105, 110, 108, 97, 119, 46, 80, 97, 99, 107, 83, 116, 101, 112, 115, 32, 108, 105, 110, 99, 104, 112, 105, 110, 47, 108, 105, 110, 99, 104, 112, 105, 110, 108, 97, 119, 46, 80, 97, 99, 107, 82, 117, 110, 115, 32, 108, 105, 110, 99, 104, 112, 105, 110, 47, 108, 105, 110, 99, 104, 112, 105, 110, 108, 97, 119, 46, 76, 101, 118, 101, 108, 83, 116, 101, 112, 115, 32, 108, 105, 110, 99, 104, 112, 105, 110, 47, 108, 105, 110, 99, 104, 112, 105, 110, 108, 97, 119, 46, 82, 101, 97, 99, 104, 83, 116, 97, 116, 101, 115, 32, 108, 105, 110, 99, 104, 112, 105, 110, 47, 108, 105, 110, 99, 104, 112, 105, 110, 108, 97, 119, 46, 82, 101, 97, 99, 104, 66, 97, 100, 32, 108, 105, 110, 99, 104, 112, 105, 110, 47, 108, 105, 110, 99, 104, 112, 105, 110, 108, 97, 119, 46, 84, 105, 99, 107, 68, 111, 101, 115, 32, 108, 105, 110, 99, 104, 112, 105, 110, 47, 108, 105, 110, 99, 104, 112, 105, 110, 108, 97, 119, 46, 84, 105, 99, 107, 82, 117, 110, 115, 32, 108, 105, 110, 99, 104, 112, 105, 110, 47, 108, 105, 110, 99, 104, 112, 105, 110, 108, 97, 119, 46, 84, 105, 99, 107, 83, 112, 108, 105, 116, 32, 108, 105, 110, 99, 104, 112, 105, 110, 47, 108, 105, 110, 99, 104, 112, 105, 110, 108, 97, 119, 46, 82, 101, 97, 99, 104, 84, 114, 117, 101, 32, 108, 105, 110, 99, 104, 112, 105, 110, 47, 108, 105, 110, 99, 104, 112, 105, 110, 108, 97, 119, 46, 82, 101, 97, 99, 104, 87, 97, 121, 32, 108, 105, 110, 99, 104, 112, 105, 110, 47, 108, 105, 110, 99, 104, 112, 105, 110, 108, 97, 119, 46, 83, 119, 101, 101, 112, 84, 101, 108, 108, 115, 32, 108, 105, 110, 99, 104, 112, 105, 110, 47, 108, 105, 110, 99, 104, 112, 105, 110, 108, 97, 119, 46, 83, 119, 101, 101, 112, 70, 111, 108, 100, 32, 108, 105, 110, 99, 104, 112, 105, 110, 47, 108, 105, 110, 99, 104, 112, 105, 110, 108, 97, 119, 46, 83, 119, 101, 101, 112, 68, 114, 111, 112, 32, 108, 105, 110, 99, 104, 112, 105, 110, 47, 108, 105, 110, 99, 104, 112, 105, 110, 108, 97, 119, 46, 82, 101, 115, 116, 78, 101, 116, 115, 32, 108, 105, 110, 99, 104, 112, 105, 110, 47, 108, 105, 110, 99, 104, 112, 105, 110, 108, 97, 119, 46, 80, 97, 99, 107, 83, 97, 109, 101, 32, 108, 105, 110, 99, 104, 112, 105, 110, 47, 108, 105, 110, 99, 104, 112, 105, 110, 108, 97, 119, 46, 83, 119, 101, 101, 112, 83, 97, 109, 101]
def headAll : List Nat := headH ++ 32 :: (headS ++ 32 :: (headC ++ 32 :: headR))
theorem head_is : Try.prog.initOrder = String.ofList (headAll.map Char.ofNat) := by kernel_rfl

theorem words_cons (a b : List Char) (h : a.all (fun c => c != Char.ofNat 32) = true) : wordsSigns (a ++ Char.ofNat 32 :: b) = a :: wordsSigns b := by
  induction a with
  | nil => rfl
  | cons c a ih =>
    simp only [List.all_cons, Bool.and_eq_true, bne_iff_ne] at h
    have hc : c ≠ Char.ofNat 32 := h.1
    have e : wordsSigns (c :: (a ++ Char.ofNat 32 :: b)) = (match wordsSigns (a ++ Char.ofNat 32 :: b) with | w :: ws => (c :: w) :: ws | [] => [[c]]) := by
      rw [wordsSigns] <;> first | rfl | (intro e; exact hc e) | exact hc
    rw [List.cons_append, e, ih h.2]
theorem head_words : wordsSigns Try.prog.initOrder.toList = headH.map Char.ofNat :: headS.map Char.ofNat :: headC.map Char.ofNat :: wordsSigns (headR.map Char.ofNat) := by
  rw [head_is, String.toList_ofList]
  unfold headAll
  simp only [List.map_append, List.map_cons]
  rw [words_cons _ _ (by decide +kernel), words_cons _ _ (by decide +kernel), words_cons _ _ (by decide +kernel)]
theorem head_behind : behindMainWord (wordsSigns Try.prog.initOrder.toList) = headC.map Char.ofNat :: wordsSigns (headR.map Char.ofNat) := by
  rw [head_words]
  simp only [behindMainWord]
  rw [if_pos (by decide +kernel)]
theorem head_cut : behindMainWord (wordsSigns Try.prog.initOrder.toList) = "cut".toList :: wordsSigns (headR.map Char.ofNat) := by
  rw [head_behind]; congr 1
theorem strip_cut (R : List (List Char)) : stripLifts liftWords ("cut".toList :: R) = ([], "cut".toList :: R) := by rfl
theorem later : Try.prog.laysLater = false := by kernel_rfl
theorem reflects : Try.prog.bearsReflect = false := by kernel_rfl
theorem doors : Try.prog.doorFits [] = true := by kernel_rfl
theorem mayEnter_of {P : Program} {R : List (List Char)} (h : behindMainWord (wordsSigns P.initOrder.toList) = "cut".toList :: R) (h1 : P.laysLater = false) (h2 : P.bearsReflect = false) (h3 : P.doorFits [] = true) : P.mayEnter = true := by
  unfold Program.mayEnter
  rw [h]
  simp only [strip_cut, h1, h2, h3]
  simp
theorem liftsFinal_of {P : Program} {R : List (List Char)} (h : behindMainWord (wordsSigns P.initOrder.toList) = "cut".toList :: R) : P.liftsFinal = false := by
  unfold Program.liftsFinal Program.headLifts
  rw [h]
  simp only [strip_cut]
  simp
theorem make_of {P : Program} {R : List (List Char)} (h : behindMainWord (wordsSigns P.initOrder.toList) = "cut".toList :: R) : P.make = some .cut := by
  unfold Program.make
  rw [h]
  simp
theorem may_enter : Try.prog.mayEnter = true := mayEnter_of head_cut later reflects doors
theorem lifts_final : Try.prog.liftsFinal = false := liftsFinal_of head_cut
theorem make_cut : Try.prog.make = some .cut := make_of head_cut
end Go.Proofs.Ytjagbnaacfhokaa
/- Words on memory that all walks of this seat share: a slice that reads as a list, worlds that keep what was there. No program in sight. -/
namespace Go.Proofs.Ytjagbnaacfhokaa
set_option linter.unusedVariables false
set_option linter.unusedSimpArgs false
open Go.RowKit

abbrev I (n : Int) : Value := .int .i64 n

/-- What is a cell stays the same cell. -/
def Keeps (w w' : World) : Prop := ∀ p u, w.cell? p = some u → w'.cell? p = some u

theorem Keeps.refl (w : World) : Keeps w w := fun _ _ h => h
theorem Keeps.trans {a b c : World} (h : Keeps a b) (k : Keeps b c) : Keeps a c := fun p u e => k p u (h p u e)

theorem lt_of_cell {w : World} {p : Addr} {u : Value} (h : w.cell? p = some u) : p.block < w.heap.size := by
  unfold World.cell? at h
  rcases Nat.lt_or_ge p.block w.heap.size with hl | hl
  · exact hl
  · rw [Array.getElem?_eq_none hl] at h; cases h

theorem Keeps.of_below {w w' : World} (h : Below w.heap.size w w') : Keeps w w' := fun p u e => (h.cell (lt_of_cell e)).trans e
theorem Keeps.drewN (w : World) (n : Nat) : Keeps w (w.drewN n) := fun _ _ h => h
theorem Keeps.drew (w : World) : Keeps w w.drew := fun _ _ h => h
theorem Keeps.alloc (w : World) (o : Obj) : Keeps w (w.alloc o) := fun p u e => (World.cell?_alloc_lt w o p (lt_of_cell e)).trans e

theorem below_drewN' {B : Nat} {a w : World} (h : Below B a w) (n : Nat) : Below B a (w.drewN n) := ⟨h.os, h.tape, h.output, h.size, h.block⟩
theorem below_of_drewN (w : World) (n : Nat) : Below w.heap.size w (w.drewN n) := below_drewN' (Below.refl _ _) n

/-- All that was there is as it was; new memory may have come. -/
def Ext (w w' : World) : Prop := Below w.heap.size w w'
section
variable {a b c : World}
theorem Ext.refl (w : World) : Ext w w := Below.refl _ _
theorem Ext.size (h : Ext a b) : a.heap.size ≤ b.heap.size := Below.size h
theorem Ext.trans (h : Ext a b) (k : Ext b c) : Ext a c := Below.trans h (Below.mono k (Below.size h))
theorem Ext.alloc (h : Ext a b) (o : Obj) : Ext a (b.alloc o) := Below.alloc h (Below.size h) o
theorem Ext.drewN (h : Ext a b) (n : Nat) : Ext a (b.drewN n) := below_drewN' h n
theorem Ext.drew (h : Ext a b) : Ext a b.drew := below_drewN' h 1
theorem Ext.setCell (h : Ext a b) {p : Addr} (hp : a.heap.size ≤ p.block) (v : Value) : Ext a (b.setCell p v) := Below.setCell h hp v
theorem Ext.keeps (h : Ext a b) : Keeps a b := Keeps.of_below h
end

/-- A slice's head, n places of one cell each, that reads cs. -/
def Sl (w : World) (A : Option Addr) (n : Nat) (cs : List Value) : Prop :=
  cs.length = n ∧ ∀ k u, cs[k]? = some u → ∃ b off, A = some ⟨b, off, none⟩ ∧ w.cell? ⟨b, off + k, none⟩ = some u

section
variable {w w' : World} {A : Option Addr} {n : Nat} {cs : List Value}
theorem Sl.keep (h : Sl w A n cs) (hk : Keeps w w') : Sl w' A n cs :=
  ⟨h.1, fun k u hu => let ⟨b, o, e, hc⟩ := h.2 k u hu; ⟨b, o, e, hk _ _ hc⟩⟩
theorem Sl.nil (w : World) (A : Option Addr) : Sl w A 0 [] := ⟨rfl, fun k u h => by simp at h⟩
theorem Sl.len {α : Type} {f : α → Value} {xs : List α} (h : Sl w A n (xs.map f)) : xs.length = n := by simpa using h.1
theorem Sl.at_ {α : Type} {f : α → Value} {xs : List α} (h : Sl w A n (xs.map f)) {k : Nat} (hk : k < n) :
    ∃ b off x, A = some ⟨b, off, none⟩ ∧ w.cell? ⟨b, off + k, none⟩ = some (f x) ∧ xs[k]? = some x := by
  have hl : k < xs.length := by have := h.len; omega
  obtain ⟨b, off, e, hc⟩ := h.2 k (f xs[k]) (by simp [List.getElem?_eq_getElem hl])
  exact ⟨b, off, xs[k], e, hc, List.getElem?_eq_getElem hl⟩
theorem Sl.next {α : Type} {f : α → Value} {xs : List α} (h : Sl w A n (xs.map f)) {k : Nat} (hk : k < n) :
    ∃ b off x, A = some ⟨b, off, none⟩ ∧ w.cell? ⟨b, off + k, none⟩ = some (f x) ∧ xs.drop k = x :: xs.drop (k + 1) := by
  have hl : k < xs.length := by have := h.len; omega
  obtain ⟨b, off, e, hc⟩ := h.2 k (f xs[k]) (by simp [List.getElem?_eq_getElem hl])
  exact ⟨b, off, xs[k], e, hc, List.drop_eq_getElem_cons hl⟩
theorem Sl.drop_end {α : Type} {f : α → Value} {xs : List α} (h : Sl w A n (xs.map f)) {k : Nat} (hk : ¬ k < n) : xs.drop k = [] := by
  have := h.len; exact List.drop_eq_nil_of_le (by omega)
end

theorem add_plain' (b o k : Nat) : (⟨b, o, none⟩ : Addr).add k = ⟨b, o + k, none⟩ := by unfold Addr.add; split <;> simp_all
theorem spot_none {w : World} {a : Addr} {k : Nat} {u : Value} (h : w.cell? (a.add k) = some u) (hk : k = 0) : a.spot = none := by
  subst hk
  obtain ⟨b, o, s⟩ := a
  cases s with
  | none => rfl
  | some x => simp [Addr.add, World.cell?] at h; split at h <;> simp at h
theorem sl_of_row {w : World} {x : Addr} {len cap : Nat} {zs : List Int} (hl : len ≤ cap) (hz : zs.length = cap)
    (hc : ∀ i, i < zs.length → w.cell? (x.add i) = some (.int .i64 (zs.getD i 0))) : Sl w (some x) len ((zs.take len).map I) := by
  refine ⟨by simp; omega, fun k u hu => ?_⟩
  rw [List.getElem?_map, List.getElem?_take] at hu
  split at hu
  · rename_i hk
    have hs : x.spot = none := spot_none (hc 0 (by omega)) rfl
    obtain ⟨b, o, s⟩ := x
    subst hs
    refine ⟨b, o, rfl, ?_⟩
    have h := hc k (by omega)
    rw [add_plain'] at h
    rw [h, List.getD_eq_getElem?_getD]
    rw [List.getElem?_eq_getElem (by omega)] at hu ⊢
    simpa using hu
  · simp at hu

theorem add_zero (b k : Nat) : (⟨b, 0, none⟩ : Addr).add k = ⟨b, k, none⟩ := by unfold Addr.add; split <;> simp_all
theorem Sl.new (w : World) (cs : List Value) (T : TypeId) : Sl (w.alloc (.cells cs.toArray T)) (some ⟨w.heap.size, 0, none⟩) cs.length cs :=
  ⟨rfl, fun k u hu => ⟨_, _, rfl, by rw [World.cell?_alloc_new]; simpa using hu⟩⟩

theorem Sl.newAt (w : World) (b : Nat) (cs : List Value) (T : TypeId) (hb : b = w.heap.size) : Sl (w.alloc (.cells cs.toArray T)) (some ⟨b, 0, none⟩) cs.length cs := by
  subst hb; exact Sl.new w cs T

/-! rows that the call itself made -/
theorem own_ext {w w' : World} {base : Nat} {e : TypeId} {size n : Nat} {v : Value} {xs : List Value} (h : w.ownsRow base e size v n xs) (hx : Ext w w') : w'.ownsRow base e size v n xs := by
  rcases h with ⟨hl, ⟨rfl, rfl⟩ | ⟨g, cap, cur, rfl, hg, hh, r⟩⟩
  · exact ⟨hl, .inl ⟨rfl, rfl⟩⟩
  · refine ⟨hl, .inr ⟨g, cap, cur, rfl, hg, ?_, r⟩⟩
    have hlt : g < w.heap.size := by
      rcases Nat.lt_or_ge g w.heap.size with h | h
      · exact h
      · rw [Array.getElem?_eq_none h] at hh; cases hh
    exact (hx.block g hlt).trans hh
theorem own_base {w : World} {base base' : Nat} {e : TypeId} {size n : Nat} {v : Value} {xs : List Value} (h : w.ownsRow base e size v n xs) (hb : base' ≤ base) : w.ownsRow base' e size v n xs := by
  rcases h with ⟨hl, h | ⟨g, cap, cur, hv, hg, r⟩⟩
  · exact ⟨hl, .inl h⟩
  · exact ⟨hl, .inr ⟨g, cap, cur, hv, by omega, r⟩⟩
theorem own_slice {w : World} {base : Nat} {e : TypeId} {size n : Nat} {v : Value} {xs : List Value} (h : w.ownsRow base e size v n xs) :
    ∃ A c, v = .slice A n c ∧ n ≤ c ∧ c ≤ maxLen ∧ ∀ k u, xs[k]? = some u → ∃ b off, A = some ⟨b, off, none⟩ ∧ w.cell? ⟨b, off + k, none⟩ = some u := by
  have h' := h
  rcases h with ⟨hl, ⟨rfl, rfl⟩ | ⟨g, cap, cur, rfl, hg, hh, hnc, hm, r⟩⟩
  · refine ⟨none, 0, rfl, Nat.le_refl _, Nat.zero_le _, fun k u hu => ?_⟩
    have : xs = [] := List.eq_nil_of_length_eq_zero (by simpa using hl)
    subst this; simp at hu
  · exact ⟨_, _, rfl, hnc, hm, fun k u hu => ⟨_, _, rfl, by have := h'.cells rfl k u hu; rwa [add_plain'] at this⟩⟩
theorem own_sl {w : World} {base : Nat} {e : TypeId} {n : Nat} {v : Value} {xs : List Value} (h : w.ownsRow base e 1 v n xs) : ∃ A c, v = .slice A n c ∧ n ≤ c ∧ c ≤ maxLen ∧ Sl w A n xs := by
  obtain ⟨A, c, hv, h1, h2, hc⟩ := own_slice h
  exact ⟨A, c, hv, h1, h2, by have := h.1; omega, hc⟩

/-- append of one element onto a row of the call's own, behind the store of the element into its new block. -/
theorem wpList_push {P : Program} {ops : Array Oper} {rest : List Oper} {o : Oper} {a : Act} {Q : Exit → Act → World → Prop} {w : World} (hgd : o.guard = none) (s x : Operand) (t e : TypeId)
    (ho : o.op = .call { callee := .builtin .append, args := #[s, x], argTypes := #[t, t] })
    {z : Value} {size bytes : Nat} (tab : (P.info? e).map (fun i => (i.zero, i.size, i.bytes)) = some (some z, size, bytes)) (ht : P.underlying t = some (.slice e)) (hzs : z.cells.size = size) (hsz : 0 < size)
    (W0 w0 : World) (hext : Ext W0 w0) (v : Value) (n : Nat) (xs : List Value) (hs : a.eval s = v) (hown : w0.ownsRow W0.heap.size e size v n xs)
    (news : List Value) (hl : news.length = size) (hw : w = w0.alloc (.cells news.toArray e)) (hx : a.eval x = .slice (some ⟨w0.heap.size, 0, none⟩) 1 1) (h1 : ∀ u ∈ news, u.oneCell' = true)
    (h63 : n + 1 ≤ maxLen) (hbytes : (n + 1) * bytes ≤ 140737488355328)
    (h : ∀ v' w', w'.ownsRow W0.heap.size e size v' (n + 1) (xs ++ news) → Ext W0 w' → w0.grownBy w' v.ownBlock → wpList P ops Q rest (a.put o.dst v') w') : wpList P ops Q (o :: rest) a w := by
  subst hw
  obtain ⟨i, hi, hz, hs1, hs2⟩ := info_parts tab
  refine wpList_append_own _ hgd s x t ho W0.heap.size e i z size bytes ht hi hz hs1 hs2 hzs hsz v n xs hs (hown.alloc _) ⟨w0.heap.size, 0, none⟩ 1 1 news hx (by omega) (fun j u hu => ?_) h1 h63 hbytes (Nat.le_trans hext.size (by simp)) ?_
  · rw [add_zero, World.cell?_alloc_new]; simpa using hu
  · intro v' w' hown' hg _
    refine h v' w' hown' (Below.grown (hext.alloc _) hg (Nat.le_trans hext.size (by simp)) (fun k hk => (hown.lt k hk).1)) ?_
    exact ⟨hg.os, hg.tape, hg.output, Nat.le_trans (by simp) hg.size, fun k hk hne => (hg.block k (by simp; omega) hne).trans (Below.heap_alloc w0 _ k hk)⟩

theorem ret_int {k : IntKind} {a b : Int} (h : a = b) : Ending.returned (.int k a) = .returned (.int k b) := by rw [h]
theorem ret_bool {a b : Bool} (h : a = b) : Ending.returned (.bool a) = .returned (.bool b) := by rw [h]
/-- A pair that a call hands back. -/
abbrev Pr (a b : Value) : Value := .tuple #[a, b]
theorem ret_pair {a b c d : Value} (h : a = c) (k : b = d) : Ending.returned (Pr a b) = .returned (Pr c d) := by rw [h, k]

/-- A slice of structs of two cells (or any pair of cells): the reading of place k is f of the k-th element. -/
def Sl2 {α : Type} (f g : α → Value) (w : World) (A : Option Addr) (n : Nat) (xs : List α) : Prop :=
  xs.length = n ∧ ∀ k x, xs[k]? = some x → ∃ b off, A = some ⟨b, off, none⟩ ∧ w.cell? ⟨b, off + k * 2, none⟩ = some (f x) ∧ w.cell? ⟨b, off + k * 2 + 1, none⟩ = some (g x)
section
variable {α : Type} {f g : α → Value} {w w' : World} {A : Option Addr} {n : Nat} {xs : List α}
theorem Sl2.keep (h : Sl2 f g w A n xs) (hk : Keeps w w') : Sl2 f g w' A n xs :=
  ⟨h.1, fun k u hu => let ⟨b, o, e, hc, hd⟩ := h.2 k u hu; ⟨b, o, e, hk _ _ hc, hk _ _ hd⟩⟩
theorem Sl2.nil (f g : α → Value) (w : World) (A : Option Addr) : Sl2 f g w A 0 [] := ⟨rfl, fun k u h => by simp at h⟩
theorem Sl2.next (h : Sl2 f g w A n xs) {k : Nat} (hk : k < n) :
    ∃ b off x, A = some ⟨b, off, none⟩ ∧ w.cell? ⟨b, off + k * 2, none⟩ = some (f x) ∧ w.cell? ⟨b, off + k * 2 + 1, none⟩ = some (g x) ∧ xs.drop k = x :: xs.drop (k + 1) ∧ xs[k]? = some x := by
  have hl : k < xs.length := by have := h.1; omega
  obtain ⟨b, off, e, hc, hd⟩ := h.2 k xs[k] (List.getElem?_eq_getElem hl)
  exact ⟨b, off, xs[k], e, hc, hd, List.drop_eq_getElem_cons hl, List.getElem?_eq_getElem hl⟩
theorem Sl2.drop_end (h : Sl2 f g w A n xs) {k : Nat} (hk : ¬ k < n) : xs.drop k = [] := by
  have := h.1; exact List.drop_eq_nil_of_le (by omega)
end

abbrev Bv (b : Bool) : Value := .bool b
abbrev Pr3 (a b c : Value) : Value := .tuple #[a, b, c]
abbrev Pr4 (a b c d : Value) : Value := .tuple #[a, b, c, d]
theorem results_tmp4 {fn : Func} {t u v x : Tmp} (h : fn.results = #[.tmp t, .tmp u, .tmp v, .tmp x]) (tmps : Array Value) (P : Program) (w : World) :
    (results fn tmps).run P w = .ok (.tuple #[tmps.getD t undef, tmps.getD u undef, tmps.getD v undef, tmps.getD x undef]) w := by simp [results, h]

/-- The new row of a make: n times z. -/
def zeros (z : Value) (n : Nat) : Array Value := madeCells #[z] n
theorem run_make1 {P : Program} (t e : TypeId) {z : Value} {bytes : Nat} (tab : (P.info? e).map (fun i => (i.zero, i.size, i.bytes)) = some (some z, 1, bytes)) (ht : P.underlying t = some (.slice e)) (hz1 : z.cells = #[z])
    (n : Nat) (hb : bytes * n ≤ 281474976710656) (h63 : n ≤ 9223372036854775807) (w : World) :
    (Instr.makeSlice t (.int .i64 (n : Int)) (.int .i64 (n : Int))).run P w = .ok (.slice (some ⟨w.heap.size, 0, none⟩) n n) (w.alloc (.cells (zeros z n) e)) := by
  obtain ⟨i, hi, hz, hs1, hs2⟩ := info_parts tab
  have hb' : (i.bytes : Int) * (n : Int) ≤ 281474976710656 := by
    rw [hs2]
    have h : ((bytes * n : Nat) : Int) ≤ 281474976710656 := by omega
    rwa [Int.natCast_mul] at h
  have hr := run_make (P := P) w t e i z ht hi hz .i64 .i64 n n (by omega) (by omega) hb' (by omega)
  simp only [Int.toNat_natCast, hs1, hz1, Nat.mul_one] at hr
  exact hr
theorem own_made (w : World) (e : TypeId) (z : Value) (n base : Nat) (hb : base ≤ w.heap.size) (hm : n ≤ maxLen) :
    (w.alloc (.cells (zeros z n) e)).ownsRow base e 1 (.slice (some ⟨w.heap.size, 0, none⟩) n n) n (List.replicate n z) := by
  refine ⟨by simp, .inr ⟨w.heap.size, n, zeros z n, rfl, hb, heap_alloc_new w _, Nat.le_refl _, hm, by simp [zeros, size_madeCells], ?_⟩⟩
  rw [zeros, toList_madeCells_one, Nat.mul_one, List.take_of_length_le (by simp)]
/-- A place of an own row: its cell, and that it may be written. -/
theorem own_at {w : World} {base : Nat} {e : TypeId} {g n c : Nat} {xs : List Value} (h : w.ownsRow base e 1 (.slice (some ⟨g, 0, none⟩) n c) n xs) {k : Nat} (hk : k < n) :
    (∃ u, xs[k]? = some u ∧ w.cell? ⟨g, k, none⟩ = some u) ∧ w.frozen? ⟨g, k, none⟩ = false ∧ base ≤ g := by
  have hl : k < xs.length := by have := h.1; omega
  refine ⟨⟨xs[k], List.getElem?_eq_getElem hl, ?_⟩, h.frozenAt k, (h.lt g rfl).1⟩
  rw [h.cellAt k (by omega), List.getElem?_eq_getElem hl]
theorem own_form {w : World} {base : Nat} {e : TypeId} {size n : Nat} {v : Value} {xs : List Value} (h : w.ownsRow base e size v n xs) (hn : 0 < n) : ∃ g c, v = .slice (some ⟨g, 0, none⟩) n c := by
  rcases h.2 with ⟨_, h0⟩ | ⟨g, cap, cur, hv, _⟩
  · omega
  · exact ⟨g, cap, hv⟩
theorem take_set_succ {α : Type} (l : List α) (k : Nat) (x : α) (h : k < l.length) : (l.set k x).take (k + 1) = l.take k ++ [x] := by
  rw [List.take_succ_eq_append_getElem (by simpa using h)]
  simp [List.take_set_of_le]


theorem flat2_get {α : Type} (f g : α → Value) (xs : List α) : ∀ k, (xs.flatMap fun x => [f x, g x])[k * 2]? = xs[k]?.map f ∧ (xs.flatMap fun x => [f x, g x])[k * 2 + 1]? = xs[k]?.map g := by
  induction xs with
  | nil => intro k; simp
  | cons x xs ih =>
    intro k
    cases k with
    | zero => simp
    | succ k =>
      have := ih k
      rw [show (k + 1) * 2 = k * 2 + 2 from by omega]
      simpa using this
theorem Sl2.newAt {α : Type} (f g : α → Value) (w : World) (b : Nat) (xs : List α) (cs : Array Value) (T : TypeId) (hb : b = w.heap.size) (hcs : cs = (xs.flatMap fun x => [f x, g x]).toArray) : Sl2 f g (w.alloc (.cells cs T)) (some ⟨b, 0, none⟩) xs.length xs := by
  subst hb; subst hcs
  refine ⟨rfl, fun k x hx => ⟨_, _, rfl, ?_, ?_⟩⟩
  · rw [World.cell?_alloc_new, Nat.zero_add]; simp only [List.getElem?_toArray]; rw [(flat2_get f g xs k).1, hx]; rfl
  · rw [World.cell?_alloc_new, Nat.zero_add]; simp only [List.getElem?_toArray]; rw [(flat2_get f g xs k).2, hx]; rfl
theorem Sl2.sub {α : Type} {f g : α → Value} {w : World} {b off n : Nat} {xs : List α} (h : Sl2 f g w (some ⟨b, off, none⟩) n xs) (lo m : Nat) (hm : lo + m ≤ n) :
    Sl2 f g w (some ⟨b, off + lo * 2, none⟩) m ((xs.drop lo).take m) := by
  refine ⟨by have := h.1; simp; omega, fun k x hx => ?_⟩
  rw [List.getElem?_take] at hx
  split at hx
  · rw [List.getElem?_drop] at hx
    obtain ⟨b', off', e, h1, h2⟩ := h.2 _ _ hx
    injection e with e; injection e with e1 e2
    subst e1; subst e2
    exact ⟨_, _, rfl, by rw [show off + lo * 2 + k * 2 = off + (lo + k) * 2 from by omega]; exact h1, by rw [show off + lo * 2 + k * 2 + 1 = off + (lo + k) * 2 + 1 from by omega]; exact h2⟩
  · cases hx

theorem append_of_nil {P : Program} (w : World) (base : Nat) (t ty e : TypeId) (i : TypeInfo) (size : Nat) (ht : P.underlying t = some (.slice e)) (hi : P.info? e = some i)
    (v : Value) (n : Nat) (xs : List Value) (hown : w.ownsRow base e size v n xs) (c : Nat) : (Builtin.append_ #[t, t] ty #[v, .slice none 0 c]).run P w = .ok v w := by
  rcases hown.2 with ⟨rfl, rfl⟩ | ⟨g, cap, cur, rfl, _, _, hnc, _⟩
  · simp [Builtin.append_, run_underlying ht, sizeOf, typeInfo, hi, Builtin.lenOf, Builtin.firstCells]
  · simp [Builtin.append_, run_underlying ht, sizeOf, typeInfo, hi, Builtin.lenOf, Builtin.firstCells, hnc, storeCells]

/-- append of all of a slice of one-cell elements onto a row of the call's own. -/
theorem wpList_appendAll {P : Program} {ops : Array Oper} {rest : List Oper} {o : Oper} {a : Act} {Q : Exit → Act → World → Prop} {w : World} (hgd : o.guard = none) (s x : Operand) (t e : TypeId)
    (ho : o.op = .call { callee := .builtin .append, args := #[s, x], argTypes := #[t, t] })
    {z : Value} {bytes : Nat} (tab : (P.info? e).map (fun i => (i.zero, i.size, i.bytes)) = some (some z, 1, bytes)) (ht : P.underlying t = some (.slice e)) (hzs : z.cells.size = 1)
    (W0 : World) (hext : Ext W0 w) (v : Value) (n : Nat) (xs : List Value) (hs : a.eval s = v) (hown : w.ownsRow W0.heap.size e 1 v n xs)
    (A : Option Addr) (m c : Nat) (news : List Value) (hx : a.eval x = .slice A m c) (hr : Sl w A m news) (h1 : ∀ u ∈ news, u.oneCell' = true)
    (h63 : n + m ≤ maxLen) (hbytes : (n + m) * bytes ≤ 140737488355328)
    (h : ∀ v' w', w'.ownsRow W0.heap.size e 1 v' (n + m) (xs ++ news) → Ext W0 w' → w.grownBy w' v.ownBlock → wpList P ops Q rest (a.put o.dst v') w') : wpList P ops Q (o :: rest) a w := by
  obtain ⟨i, hi, hz, hs1, hs2⟩ := info_parts tab
  have hb : ∀ k, v.ownBlock = some k → W0.heap.size ≤ k := fun k hk => (hown.lt k hk).1
  cases A with
  | none =>
    have hm : m = 0 := by
      rcases Nat.eq_zero_or_pos m with e | e
      · exact e
      · have hl : 0 < news.length := by rw [hr.1]; exact e
        obtain ⟨b, off, e2, _⟩ := hr.2 0 _ (List.getElem?_eq_getElem hl)
        cases e2
    subst hm
    have hn : news = [] := List.eq_nil_of_length_eq_zero hr.1
    subst hn
    refine wpList_plain hgd fun K hK => ?_
    unfold Oper.wp execOp
    simp only [ho, resolve, invoke, builtin, Sem.run_bind, Sem.run_pure, Result.andThen_ok, List.map_toArray, List.map_cons, List.map_nil, hs, hx, append_of_nil (P := P) w W0.heap.size t o.type e i 1 ht hi v n xs hown c]
    exact hK _ _ (h v w (by simpa using hown) hext (World.grownBy.refl w _))
  | some ad =>
    have hcells : ∀ j u, news[j]? = some u → w.cell? (ad.add j) = some u := by
      intro j u hu
      obtain ⟨b, off, e2, hc⟩ := hr.2 j u hu
      injection e2 with e2
      subst e2
      rw [add_plain']; exact hc
    refine wpList_append_own _ hgd s x t ho W0.heap.size e i z 1 bytes ht hi hz hs1 hs2 hzs (by omega) v n xs hs hown ad m c news hx (by have := hr.1; omega) hcells h1 h63 hbytes hext.size ?_
    intro v' w' hown' hg _
    exact h v' w' hown' (Below.grown hext hg hext.size hb) hg
theorem own_empty (w : World) (e : TypeId) (size base : Nat) (hb : base ≤ w.heap.size) : (w.alloc (.cells #[] e)).ownsRow base e size (.slice (some ⟨w.heap.size, 0, none⟩) 0 0) 0 [] :=
  World.ownsRow_made w #[] 0 hb (Nat.zero_le _) (by simp)

/-- wpList_push where the element's new block is named by its number. -/
theorem wpList_pushB {P : Program} {ops : Array Oper} {rest : List Oper} {o : Oper} {a : Act} {Q : Exit → Act → World → Prop} {w : World} (hgd : o.guard = none) (s x : Operand) (t e : TypeId)
    (ho : o.op = .call { callee := .builtin .append, args := #[s, x], argTypes := #[t, t] })
    {z : Value} {size bytes : Nat} (tab : (P.info? e).map (fun i => (i.zero, i.size, i.bytes)) = some (some z, size, bytes)) (ht : P.underlying t = some (.slice e)) (hzs : z.cells.size = size) (hsz : 0 < size)
    (W0 w0 : World) (hext : Ext W0 w0) (v : Value) (n : Nat) (xs : List Value) (hs : a.eval s = v) (hown : w0.ownsRow W0.heap.size e size v n xs)
    (news : List Value) (hl : news.length = size) (hw : w = w0.alloc (.cells news.toArray e)) (B : Nat) (hx : a.eval x = .slice (some ⟨B, 0, none⟩) 1 1) (hB : B = w0.heap.size) (h1 : ∀ u ∈ news, u.oneCell' = true)
    (h63 : n + 1 ≤ maxLen) (hbytes : (n + 1) * bytes ≤ 140737488355328)
    (h : ∀ v' w', w'.ownsRow W0.heap.size e size v' (n + 1) (xs ++ news) → Ext W0 w' → w0.grownBy w' v.ownBlock → wpList P ops Q rest (a.put o.dst v') w') : wpList P ops Q (o :: rest) a w :=
  wpList_push hgd s x t e ho tab ht hzs hsz W0 w0 hext v n xs hs hown news hl hw (by rw [hx, hB]) h1 h63 hbytes h
end Go.Proofs.Ytjagbnaacfhokaa
/- Programs, in plain Lean. No Go in sight. -/
namespace Go.Proofs.Ytjagbnaacfhokaa
set_option linter.unusedVariables false
set_option linter.unusedSimpArgs false

structure PNode where
  kind : Int
  sig : Int
  deriving DecidableEq

def two (k : Int) : Bool := decide (5 ≤ k)

/-- What is left of a list behind n programs. -/
def skipN : Nat → List PNode → Option (List PNode)
  | 0, l => some l
  | _ + 1, [] => none
  | n + 1, x :: l => skipN (if two x.kind then n + 2 else n) l

theorem skipN_zero (l : List PNode) : skipN 0 l = some l := by cases l <;> rfl

theorem skipN_add (l : List PNode) : ∀ a b, skipN (a + b) l = (skipN a l).bind (skipN b) := by
  induction l with
  | nil =>
    intro a b
    cases a with
    | zero => simp [skipN]
    | succ a => rw [show a + 1 + b = (a + b) + 1 from by omega]; rfl
  | cons x l ih =>
    intro a b
    cases a with
    | zero => simp [skipN]
    | succ a =>
      rw [show a + 1 + b = (a + b) + 1 from by omega]
      simp only [skipN]
      split
      · rw [show a + b + 2 = a + 2 + b from by omega, ih]
      · exact ih a b

theorem skip_two (x : PNode) (l : List PNode) (h : two x.kind = true) : skipN 1 (x :: l) = (skipN 1 l).bind (skipN 1) := by
  rw [← skipN_add]; simp [skipN, h]
theorem skip_one (x : PNode) (l : List PNode) (h : two x.kind = false) : skipN 1 (x :: l) = some l := by
  simp [skipN, h, skipN_zero]

theorem skipN_suffix (l : List PNode) : ∀ n r, skipN n l = some r → ∃ d, l = d ++ r := by
  induction l with
  | nil => intro n r h; cases n <;> simp [skipN] at h; exact ⟨[], by simp [h]⟩
  | cons x l ih =>
    intro n r h
    cases n with
    | zero => simp [skipN] at h; exact ⟨[], by simp [h]⟩
    | succ n => obtain ⟨d, hd⟩ := ih _ _ h; exact ⟨x :: d, by simp [hd]⟩

theorem skip_lt {l r : List PNode} (h : skipN 1 l = some r) : r.length < l.length := by
  cases l with
  | nil => simp [skipN] at h
  | cons x l =>
    obtain ⟨d, hd⟩ := skipN_suffix l _ r h
    have := congrArg List.length hd
    simp at this ⊢; omega

/-- Where the next program behind the one at k begins; -1: there is none at k. -/
def oneM (p : List PNode) (k : Int) : Int :=
  if k < 0 then -1 else match skipN 1 (p.drop k.toNat) with
    | some r => (p.length : Int) - r.length
    | none => -1

theorem drop_suffix {p d r : List PNode} (k : Nat) (h : p.drop k = d ++ r) : p.drop (p.length - r.length) = r := by
  have hl := congrArg List.length h
  simp at hl
  have e : p.length - r.length = k + d.length ∨ (r = [] ∧ d = []) := by
    cases r with
    | nil => cases d with
      | nil => right; simp
      | cons => left; simp at hl ⊢; omega
    | cons => left; simp at hl ⊢; omega
  rcases e with e | ⟨rfl, rfl⟩
  · rw [e, ← List.drop_drop, h]; simp
  · simp

theorem oneM_neg (p : List PNode) {k : Int} (h : k < 0) : oneM p k = -1 := by simp [oneM, h]
theorem oneM_big (p : List PNode) {k : Int} (h : (p.length : Int) ≤ k) : oneM p k = -1 := by
  have : ¬ k < 0 := by omega
  have e : p.drop k.toNat = [] := List.drop_eq_nil_of_le (by omega)
  simp [oneM, this, e, skipN]
theorem oneM_leaf {p : List PNode} {k : Nat} {x : PNode} (hx : p[k]? = some x) (h : two x.kind = false) : oneM p k = k + 1 := by
  have hk : k < p.length := (List.getElem?_eq_some_iff.1 hx).1
  have hd : p.drop k = x :: p.drop (k + 1) := by
    rw [List.drop_eq_getElem_cons hk]; congr 1; exact (List.getElem?_eq_some_iff.1 hx).2
  have : ¬ (k : Int) < 0 := by omega
  simp only [oneM, this, if_false, Int.toNat_natCast, hd, skip_one x _ h, List.length_drop]
  omega
theorem oneM_range (p : List PNode) (k : Int) : oneM p k = -1 ∨ (0 ≤ k ∧ k < oneM p k ∧ oneM p k ≤ p.length) := by
  by_cases hk : k < 0
  · left; exact oneM_neg p hk
  · simp only [oneM, hk, if_false]
    cases h : skipN 1 (p.drop k.toNat) with
    | none => simp
    | some r =>
      right
      have := skip_lt h
      simp at this
      simp only []
      omega
theorem oneM_two {p : List PNode} {k : Nat} {x : PNode} (hx : p[k]? = some x) (h : two x.kind = true) : oneM p k = oneM p (oneM p ((k : Int) + 1)) := by
  have hk : k < p.length := (List.getElem?_eq_some_iff.1 hx).1
  have hd : p.drop k = x :: p.drop (k + 1) := by
    rw [List.drop_eq_getElem_cons hk]; congr 1; exact (List.getElem?_eq_some_iff.1 hx).2
  have h0 : ¬ (k : Int) < 0 := by omega
  have h1 : ¬ (k : Int) + 1 < 0 := by omega
  have e1 : ((k : Int) + 1).toNat = k + 1 := by omega
  have hL : oneM p k = match (skipN 1 (p.drop (k + 1))).bind (skipN 1) with | some r => (p.length : Int) - r.length | none => -1 := by
    simp only [oneM, h0, if_false, Int.toNat_natCast, hd, skip_two x _ h]
  rw [hL]
  have hM : oneM p ((k : Int) + 1) = match skipN 1 (p.drop (k + 1)) with | some r => (p.length : Int) - r.length | none => -1 := by
    simp only [oneM, h1, if_false, e1]
  rw [hM]
  cases hs : skipN 1 (p.drop (k + 1)) with
  | none => simp [oneM]
  | some r =>
    obtain ⟨d, hdr⟩ := skipN_suffix _ _ _ hs
    have hr := drop_suffix (k + 1) hdr
    have hlen : r.length ≤ p.length := by
      have := congrArg List.length hdr; simp at this; omega
    have h2 : ¬ (p.length : Int) - r.length < 0 := by omega
    have e2 : ((p.length : Int) - r.length).toNat = p.length - r.length := by omega
    simp only [Option.bind_some, oneM, h2, if_false, e2, hr]

def signsM (kind : Int) : Int := if kind = 4 ∨ kind = 7 then 3 else if kind = 3 ∨ kind = 8 then 3 else 1
def badKind (x : PNode) : Bool := decide (x.kind < 0) || decide (8 < x.kind)
def badSig (x : PNode) : Bool := decide (x.sig < 0) || decide (signsM x.kind ≤ x.sig)
def checkP (p : List PNode) : Int :=
  if 14 < p.length then 2 else if p.any badKind then 4 else if p.any badSig then 3 else if oneM p 0 ≠ p.length then 1 else 0
def waitK (k : Int) : Bool := decide (k = 1) || decide (k = 2) || decide (k = 4)

def ofP (p : List PNode) (k : Nat) : Int × Int × Int :=
  match p[k]? with
  | some x => if two x.kind then ((k : Int) + 1, oneM p ((k : Int) + 1), oneM p k) else (0, 0, oneM p k)
  | none => (0, 0, 0)
def partsP (p : List PNode) (k : Int) : (Int × Int × Int) × Int :=
  if checkP p ≠ 0 then ((0, 0, 0), checkP p) else if k < 0 ∨ (p.length : Int) ≤ k then ((0, 0, 0), 3) else (ofP p k.toNat, 0)
def waitsP (p : List PNode) : List Bool := p.map fun x => waitK x.kind

/-! the reference -/
def rtwo (k : Int) : Bool := decide (5 ≤ k) && decide (k ≤ 8)
def mostM (kind : Int) : Int := if kind = 4 ∨ kind = 7 then 2 else if kind = 3 ∨ kind = 8 then 2 else 0
def openM : List PNode → Int → Int
  | [], o => if o = 0 then 0 else 1
  | x :: l, o => if o = 0 then 1 else openM l (if rtwo x.kind then o - 1 + 2 else o - 1)
def inK (x : PNode) : Bool := decide (0 ≤ x.kind) && decide (x.kind ≤ 8)
def inS (x : PNode) : Bool := decide (0 ≤ x.sig) && decide (x.sig ≤ mostM x.kind)
def rcheckP (p : List PNode) : Int :=
  if 14 < p.length then 2 else if p.all inK = false then 4 else if p.all inS = false then 3 else openM p 1

theorem inK_eq (x : PNode) : inK x = !badKind x := by rw [Bool.eq_iff_iff]; simp [inK, badKind]
theorem most_eq (k : Int) : mostM k = signsM k - 1 := by unfold mostM signsM; repeat' split
                                                         all_goals rfl
theorem inS_eq (x : PNode) : inS x = !badSig x := by rw [Bool.eq_iff_iff]; simp [inS, badSig, most_eq]; omega
theorem all_not {α : Type} (f g : α → Bool) (h : ∀ x, f x = !g x) (l : List α) : l.all f = !l.any g := by
  induction l with
  | nil => rfl
  | cons x l ih => simp [ih, h]
theorem rtwo_eq {k : Int} (h : k ≤ 8) : rtwo k = two k := by rw [Bool.eq_iff_iff]; simp [rtwo, two]; omega

theorem openM_eq (l : List PNode) (hk : l.any badKind = false) : ∀ n : Nat, openM l n = if skipN n l = some [] then 0 else 1 := by
  induction l with
  | nil => intro n; cases n <;> simp [openM, skipN]; omega
  | cons x l ih =>
    intro n
    simp only [List.any_cons, Bool.or_eq_false_iff] at hk
    have hx : x.kind ≤ 8 := by have := hk.1; simp [badKind] at this; omega
    cases n with
    | zero => simp [openM, skipN]
    | succ n =>
      have h0 : ¬ ((n + 1 : Nat) : Int) = 0 := by omega
      simp only [openM, h0, if_false, skipN, rtwo_eq hx]
      rw [show (if two x.kind = true then ((n + 1 : Nat) : Int) - 1 + 2 else ((n + 1 : Nat) : Int) - 1) = ((if two x.kind = true then n + 2 else n : Nat) : Int) from by split <;> omega]
      exact ih hk.2 _
theorem skip_all (p : List PNode) : (oneM p 0 = p.length) = (skipN 1 p = some []) := by
  simp only [oneM, Int.lt_irrefl, if_false, Int.toNat_zero, List.drop_zero]
  cases h : skipN 1 p with
  | none => simp
  | some r =>
    have := skip_lt h
    simp only [eq_iff_iff, Option.some.injEq]
    constructor
    · intro e; exact List.eq_nil_of_length_eq_zero (by omega)
    · rintro rfl; simp
theorem rcheckP_eq (p : List PNode) : rcheckP p = checkP p := by
  unfold rcheckP checkP
  rw [all_not inK badKind inK_eq, all_not inS badSig inS_eq]
  by_cases h1 : 14 < p.length
  · simp [h1]
  · cases hk : p.any badKind with
    | true => simp [h1]
    | false =>
      cases hs : p.any badSig with
      | true => simp [h1]
      | false =>
        have h : openM p 1 = _ := openM_eq p hk 1
        simp only [h1, if_false, Bool.not_false, Bool.false_eq_true]
        rw [if_neg (by simp), if_neg (by simp), h]
        have hsk := skip_all p
        by_cases hq : skipN 1 p = some []
        · rw [if_pos hq, if_neg (by rw [hsk.symm] at hq; simpa using hq)]
        · rw [if_neg hq, if_pos (by rw [hsk.symm] at hq; exact hq)]

theorem checkP_ok {p : List PNode} (h : checkP p = 0) : p.length ≤ 14 ∧ p.any badKind = false ∧ p.any badSig = false ∧ skipN 1 p = some [] := by
  unfold checkP at h
  by_cases h1 : 14 < p.length
  · simp [h1] at h
  · cases hk : p.any badKind with
    | true => simp [h1, hk] at h
    | false =>
      cases hs : p.any badSig with
      | true => simp [h1, hk, hs] at h
      | false =>
        by_cases hq : oneM p 0 = p.length
        · exact ⟨by omega, rfl, rfl, by rwa [skip_all] at hq⟩
        · simp [h1, hk, hs, hq] at h

/-- In a list that is a row of programs, a program stands at each place. -/
theorem skipN_some_drop (l : List PNode) : ∀ (n : Nat), skipN n l = some [] → ∀ k, k < l.length → ∃ r, skipN 1 (l.drop k) = some r := by
  induction l with
  | nil => intro n _ k hk; simp at hk
  | cons x l ih =>
    intro n h k hk
    cases n with
    | zero => simp [skipN] at h
    | succ n =>
      cases k with
      | zero =>
        rw [show n + 1 = 1 + n from by omega, skipN_add] at h
        cases hs : skipN 1 (x :: l) with
        | none => rw [hs] at h; simp at h
        | some r => exact ⟨r, by simpa using hs⟩
      | succ k => simp only [List.drop_succ_cons]; simp only [skipN] at h; exact ih _ h k (by simpa using hk)
theorem one_ok {p : List PNode} (h : checkP p = 0) {k : Nat} (hk : k < p.length) : (k : Int) < oneM p k ∧ oneM p k ≤ p.length := by
  obtain ⟨_, _, _, hs⟩ := checkP_ok h
  obtain ⟨r, hr⟩ := skipN_some_drop p 1 hs k hk
  have hlt := skip_lt hr
  have h0 : ¬ (k : Int) < 0 := by omega
  simp only [oneM, h0, if_false, Int.toNat_natCast, hr]
  simp at hlt
  omega

def playM : List PNode := [⟨5, 0⟩, ⟨6, 0⟩, ⟨5, 0⟩, ⟨4, 0⟩, ⟨3, 0⟩, ⟨5, 0⟩, ⟨1, 0⟩, ⟨3, 1⟩, ⟨5, 0⟩, ⟨1, 0⟩, ⟨8, 0⟩, ⟨3, 2⟩, ⟨2, 0⟩]
end Go.Proofs.Ytjagbnaacfhokaa
/- How arguments that are read as data open to the words of Lib: slices of structs of one-cell fields. (open_slice_fields is the guide's page extra-structs, to be copied.) -/
namespace Go.Proofs.Ytjagbnaacfhokaa
set_option linter.unusedVariables false
set_option linter.unusedSimpArgs false
open Go.ChangeShapes Go.WideShapes Go.Deep Go.RowKit
section
variable {H : Type} {enc : TypeId × Value → H} {P : Program} {w : World} {base : Nat} {spare : Nat → Bool} {held : Bool}
theorem open_slice_fields {t e : TypeId} {fs : Array Field} {fuel : Nat} {cs : List Value} {x : DataW H × List MemPlace} (ht : P.underlying t = some (.slice e)) (he : P.underlying e = some (.struct fs))
    (hone : oneCellFields P fs = true) (hC : P.cellsOf e = fs.size) (h : DataW.trod enc P w base spare held fuel t cs = some x) :
    (cs = [.slice none 0 0] ∧ x = (.nil, [])) ∨
    ∃ (a : Addr) (len cap m : Nat) (D : Nat → DataW H) (Pl : Nat → List MemPlace), cs = [.slice (some a) len cap] ∧ base ≤ a.block ∧ len ≤ cap ∧ cap ≤ maxLen ∧ m = (if spare a.block then cap else len) ∧
      x = (.slice ((List.range len).map D) ((List.range (m - len)).map fun j => D (len + j)), MemPlace.row a (m * fs.size) ++ (List.range m).flatMap Pl) ∧
      ∀ i, i < m → ∃ (ys : List (DataW H × List MemPlace)) (n : Nat), D i = .agg (ys.map (·.1)) ∧ Pl i = ys.flatMap (·.2) ∧ ys.length = fs.size ∧
        ∀ (j : Nat) (f : Field), fs[j]? = some f → ∃ (v : Value) (y : DataW H × List MemPlace), w.cell? (a.add (i * fs.size + j)) = some v ∧ ys[j]? = some y ∧ DataW.trod enc P w base spare held n f.type [v] = some y := by
  rcases open_slice ht h with h0 | ⟨a, len, cap, m, n, D, Pl, hcs, hb, hl, hm, hmm, hx, hi⟩
  · exact .inl h0
  · refine .inr ⟨a, len, cap, m, D, Pl, hcs, hb, hl, hm, hmm, by rw [hC] at hx; exact hx, fun i him => ?_⟩
    obtain ⟨cs', hc, ht'⟩ := hi i him
    rw [hC] at hc
    obtain ⟨ys, n', hn', hy, hlen, hyl, hf⟩ := DataW.trod_struct he ht'
    obtain ⟨_, hcl, hat⟩ := World.cells?_some hc
    simp only [Prod.mk.injEq] at hy
    refine ⟨ys, n', hy.1, hy.2, hyl, fun j f hj => ?_⟩
    obtain ⟨ho, hk⟩ := hone_of hone j f hj
    have hjl : j < fs.size := (Array.getElem?_eq_some_iff.1 hj).1
    have hcell := hat j hjl
    have hv : cs'[j]? = some (cs'[j]'(by omega)) := List.getElem?_eq_getElem (by omega)
    have h1 := hf j f hj
    rw [ho, hk] at h1
    have hone' : (cs'.drop j).take 1 = [cs'[j]'(by omega)] := by
      rw [List.drop_eq_getElem_cons (by omega)]
      rfl
    rw [hone'] at h1
    have hys : ys[j]? = some (ys[j]'(by omega)) := List.getElem?_eq_getElem (by omega)
    refine ⟨_, _, ?_, hys, h1.trans hys⟩
    rw [← Go.Deep.add_add, hcell, hv]

end

end Go.Proofs.Ytjagbnaacfhokaa
/- SameBools, SameInts: are two lists the same. -/
namespace Go.Proofs.Ytjagbnaacfhokaa
set_option linter.unusedVariables false
set_option linter.unusedSimpArgs false
open Go.RowKit

def sameM {α : Type} [DecidableEq α] : List α → List α → Bool
  | x :: a, y :: b => decide (x = y) && sameM a b
  | _, _ => true
theorem sameM_eq {α : Type} [DecidableEq α] : ∀ a b : List α, a.length = b.length → sameM a b = decide (a = b)
  | [], [], _ => by simp [sameM]
  | [], _ :: _, h => by simp at h
  | _ :: _, [], h => by simp at h
  | x :: a, y :: b, h => by
    rw [sameM, sameM_eq a b (by simpa using h), Bool.eq_iff_iff]; simp

set_option maxHeartbeats 1000000 in
theorem sameInts_eq (A B : Option Addr) (n c d : Nat) (xs ys : List Int) (w : World) (h : Sl w A n (xs.map I)) (h' : Sl w B n (ys.map I)) (hn : n ≤ maxLen) :
    Calls Try.prog 33 #[.slice A n c, .slice B n d] w fun e w' => e = .returned (.bool (sameM xs ys)) ∧ ∃ m, w' = w.drewN m := by
  unfold maxLen at hn
  have H := Lib.hid h; clear h
  have H' := Lib.hid h'; clear h'
  go_enter Try.func33, Try.ntmps33
  go_wp2
  go_loopw [5] (fun i wr => ∃ (k m : Nat), k ≤ n ∧ i = .int .i64 k ∧ wr = w.drewN m ∧ sameM (xs.drop k) (ys.drop k) = sameM xs ys) (fun i _ => n - (intOf i).toNat)
  case atStart => exact ⟨0, 0, Nat.zero_le _, rfl, rfl, rfl⟩
  case round =>
    obtain ⟨k, m, hk, rfl, rfl, hM⟩ := hrel
    by_cases hlt : k < n
    · obtain ⟨b, off, x, rfl, hc, hd⟩ := H.out.next hlt
      obtain ⟨b', off', y, rfl, hc', hd'⟩ := H'.out.next hlt
      rw [hd, hd', sameM] at hM
      have HM := Lib.hid hM; clear hM hd hd'
      by_cases hxy : x = y
      · have g3 : (x != y) = false := by simpa using hxy
        have H3 := Lib.hid hxy; clear hxy
        go_wp2_with fail
        go_quiet (fail)
        go_wp2
        go_roundw
        case rel => exact ⟨k + 1, _, by omega, by go_num, rfl, by rw [← HM.out]; simp [H3.out]⟩
        case measure => simp [intOf]; omega
      · have g3 : (x != y) = true := by simpa using hxy
        have H3 := Lib.hid hxy; clear hxy
        go_wp2_with fail
        go_quiet (fail)
        go_wp2
        go_ret; exact ⟨ret_bool (by rw [← HM.out]; simp [H3.out]), _, World.drewN_drewN _ _ _⟩
    · have hE : sameM ([] : List Int) (ys.drop k) = true := by cases ys.drop k <;> rfl
      rw [H.out.drop_end hlt, hE] at hM
      have HM := Lib.hid hM; clear hM hE
      go_wp2
      go_ret; exact ⟨ret_bool HM.out, _, rfl⟩

theorem sameInts_any (A B : Option Addr) (n m c d : Nat) (xs ys : List Int) (w : World) (h : Sl w A n (xs.map I)) (h' : Sl w B m (ys.map I)) (hn : n ≤ maxLen) (hm : m ≤ maxLen) :
    Calls Try.prog 33 #[.slice A n c, .slice B m d] w fun e w' => e = .returned (.bool (decide (xs = ys))) ∧ ∃ m, w' = w.drewN m := by
  by_cases hnm : n = m
  · subst hnm
    rw [← sameM_eq xs ys (by rw [h.len, h'.len])]
    exact sameInts_eq A B n c d xs ys w h h' hn
  · have hf : decide (xs = ys) = false := by
      simp; rintro rfl; exact hnm (h.len.symm.trans h'.len)
    rw [hf]
    have g : ((n : Int) != (m : Int)) = true := by simp; omega
    have H := Lib.hid h; have H' := Lib.hid h'; have HN := Lib.hid hnm
    clear h h' hnm hf
    go_enter Try.func33, Try.ntmps33
    go_wp2
    go_ret; exact ⟨rfl, 0, rfl⟩

set_option maxHeartbeats 1000000 in
theorem sameBools_eq (A B : Option Addr) (n c d : Nat) (xs ys : List Bool) (w : World) (h : Sl w A n (xs.map Bv)) (h' : Sl w B n (ys.map Bv)) (hn : n ≤ maxLen) :
    Calls Try.prog 29 #[.slice A n c, .slice B n d] w fun e w' => e = .returned (.bool (sameM xs ys)) ∧ ∃ m, w' = w.drewN m := by
  unfold maxLen at hn
  have H := Lib.hid h; clear h
  have H' := Lib.hid h'; clear h'
  go_enter Try.func29, Try.ntmps29
  go_wp2
  go_loopw [5] (fun i wr => ∃ (k m : Nat), k ≤ n ∧ i = .int .i64 k ∧ wr = w.drewN m ∧ sameM (xs.drop k) (ys.drop k) = sameM xs ys) (fun i _ => n - (intOf i).toNat)
  case atStart => exact ⟨0, 0, Nat.zero_le _, rfl, rfl, rfl⟩
  case round =>
    obtain ⟨k, m, hk, rfl, rfl, hM⟩ := hrel
    by_cases hlt : k < n
    · obtain ⟨b, off, x, rfl, hc, hd⟩ := H.out.next hlt
      obtain ⟨b', off', y, rfl, hc', hd'⟩ := H'.out.next hlt
      rw [hd, hd', sameM] at hM
      have HM := Lib.hid hM; clear hM hd hd'
      cases x <;> cases y
      all_goals
        go_wp2_with fail
        go_quiet (fail)
        go_wp2
        first
          | (go_roundw
             case rel => exact ⟨k + 1, _, by omega, by go_num, rfl, by rw [← HM.out]; simp⟩
             case measure => simp [intOf]; omega)
          | (go_ret; exact ⟨ret_bool (by rw [← HM.out]; simp), _, World.drewN_drewN _ _ _⟩)
    · have hE : sameM ([] : List Bool) (ys.drop k) = true := by cases ys.drop k <;> rfl
      rw [H.out.drop_end hlt, hE] at hM
      have HM := Lib.hid hM; clear hM hE
      go_wp2
      go_ret; exact ⟨ret_bool HM.out, _, rfl⟩

theorem sameBools_any (A B : Option Addr) (n m c d : Nat) (xs ys : List Bool) (w : World) (h : Sl w A n (xs.map Bv)) (h' : Sl w B m (ys.map Bv)) (hn : n ≤ maxLen) (hm : m ≤ maxLen) :
    Calls Try.prog 29 #[.slice A n c, .slice B m d] w fun e w' => e = .returned (.bool (decide (xs = ys))) ∧ ∃ m, w' = w.drewN m := by
  by_cases hnm : n = m
  · subst hnm
    rw [← sameM_eq xs ys (by rw [h.len, h'.len])]
    exact sameBools_eq A B n c d xs ys w h h' hn
  · have hf : decide (xs = ys) = false := by
      simp; rintro rfl; exact hnm (h.len.symm.trans h'.len)
    rw [hf]
    have g : ((n : Int) != (m : Int)) = true := by simp; omega
    have H := Lib.hid h; have H' := Lib.hid h'; have HN := Lib.hid hnm
    clear h h' hnm hf
    go_enter Try.func29, Try.ntmps29
    go_wp2
    go_ret; exact ⟨rfl, 0, rfl⟩

theorem within_any' (n lo hi : Int) (w : World) :
    Calls Try.prog 110 #[I n, I lo, I hi] w fun e w' => e = .returned (.bool (decide (lo ≤ n) && decide (n ≤ hi))) ∧ w = w' := by
  go_enter Try.func110, Try.ntmps110
  go_wp2
  all_goals go_ret
  all_goals exact ⟨ret_bool (by simp <;> omega), rfl⟩
end Go.Proofs.Ytjagbnaacfhokaa
/- Nets, in plain Lean: what each function of package net computes. -/
namespace Go.Proofs.Ytjagbnaacfhokaa
set_option linter.unusedVariables false
set_option linter.unusedSimpArgs false

structure GateM where
  kind : Int
  num : Int
  args : List Int
  deriving DecidableEq
structure StoreM where
  fst : Bool
  next : Int
  deriving DecidableEq
structure NetM where
  ins : Int
  gates : List GateM
  regs : List StoreM
  outs : List Int
  deriving DecidableEq

def formM (N : NetM) (g : GateM) : Bool :=
  let most : Int := if g.kind = 2 then N.ins - 1 else if g.kind = 3 then (N.regs.length : Int) - 1 else 0
  let args : Bool := if g.kind = 4 ∨ g.kind = 5 then true else if g.kind = 6 then decide (g.args.length = 1) else decide (g.args.length = 0)
  args && decide (0 ≤ g.num) && decide (g.num ≤ most)
def manyA (g : GateM) : Bool := decide (16 < g.args.length)
def badPlace (n : Nat) (k : Int) : Bool := decide (k < 0) || decide ((n : Int) ≤ k)
def badGK (g : GateM) : Bool := decide (g.kind < 0) || decide (6 < g.kind)
def tooMany (N : NetM) : Bool := decide (3 < N.ins) || decide (200 < N.gates.length) || decide (20 < N.regs.length) || decide (3 < N.outs.length)
def namedM (N : NetM) : List Int := N.outs ++ N.regs.map (·.next) ++ N.gates.flatMap (·.args)
/-- Check: the first error. -/
def checkN (N : NetM) : Int :=
  if tooMany N then 2 else if N.gates.any manyA then 2 else if N.ins < 0 then 3 else if (namedM N).any (badPlace N.gates.length) then 3
  else if N.gates.any badGK then 4 else if N.gates.all (formM N) then 0 else 1
def firstM (N : NetM) : List Int := N.regs.map fun r => if r.fst then 1 else 0
def nextsM (N : NetM) : List Int := N.regs.map (·.next)
end Go.Proofs.Ytjagbnaacfhokaa
/- How a net lies in memory; must, and what is left by a panic. -/
namespace Go.Proofs.Ytjagbnaacfhokaa
set_option linter.unusedVariables false
set_option linter.unusedSimpArgs false
open Go.RowKit

/-- A slice of gates, three cells each. -/
def SlG (w : World) (A : Option Addr) (n : Nat) (gs : List GateM) : Prop :=
  gs.length = n ∧ ∀ k g, gs[k]? = some g → ∃ b off A' m c, A = some ⟨b, off, none⟩ ∧ w.cell? ⟨b, off + k * 3, none⟩ = some (I g.kind) ∧ w.cell? ⟨b, off + k * 3 + 1, none⟩ = some (I g.num) ∧
    w.cell? ⟨b, off + k * 3 + 2, none⟩ = some (.slice A' m c) ∧ Sl w A' m (g.args.map I) ∧ m ≤ c ∧ c ≤ maxLen
abbrev RB (r : StoreM) : Value := Bv r.fst
abbrev RN (r : StoreM) : Value := I r.next
abbrev SlR := Sl2 RB RN
theorem SlG.keep {w w' : World} {A : Option Addr} {n : Nat} {gs : List GateM} (h : SlG w A n gs) (hk : Keeps w w') : SlG w' A n gs :=
  ⟨h.1, fun k g hg => let ⟨b, o, A', m, c, e, h0, h1, h2, h3, h4, h5⟩ := h.2 k g hg; ⟨b, o, A', m, c, e, hk _ _ h0, hk _ _ h1, hk _ _ h2, h3.keep hk, h4, h5⟩⟩
theorem SlG.next {w : World} {A : Option Addr} {n : Nat} {gs : List GateM} (h : SlG w A n gs) {k : Nat} (hk : k < n) :
    ∃ b off A' m c g, A = some ⟨b, off, none⟩ ∧ w.cell? ⟨b, off + k * 3, none⟩ = some (I g.kind) ∧ w.cell? ⟨b, off + k * 3 + 1, none⟩ = some (I g.num) ∧
    w.cell? ⟨b, off + k * 3 + 2, none⟩ = some (.slice A' m c) ∧ Sl w A' m (g.args.map I) ∧ m ≤ c ∧ c ≤ maxLen ∧ gs.drop k = g :: gs.drop (k + 1) ∧ gs[k]? = some g := by
  have hl : k < gs.length := by have := h.1; omega
  obtain ⟨b, off, A', m, c, e, r⟩ := h.2 k gs[k] (List.getElem?_eq_getElem hl)
  exact ⟨b, off, A', m, c, gs[k], e, r.1, r.2.1, r.2.2.1, r.2.2.2.1, r.2.2.2.2.1, r.2.2.2.2.2, List.drop_eq_getElem_cons hl, List.getElem?_eq_getElem hl⟩
theorem SlG.drop_end {w : World} {A : Option Addr} {n : Nat} {gs : List GateM} (h : SlG w A n gs) {k : Nat} (hk : ¬ k < n) : gs.drop k = [] := by
  have := h.1; exact List.drop_eq_nil_of_le (by omega)

/-- The four cells of a net that reads as N. -/
structure NetC (w : World) (i : Int) (GA : Option Addr) (gn gc : Nat) (RA : Option Addr) (rn rc : Nat) (OA : Option Addr) (on oc : Nat) (N : NetM) : Prop where
  ins : i = N.ins
  gates : SlG w GA gn N.gates
  regs : SlR w RA rn N.regs
  outs : Sl w OA on (N.outs.map I)
  gl : gn ≤ gc ∧ gc ≤ maxLen
  rl : rn ≤ rc ∧ rc ≤ maxLen
  ol : on ≤ oc ∧ oc ≤ maxLen
theorem NetC.keep {w w' : World} {i : Int} {GA : Option Addr} {gn gc : Nat} {RA : Option Addr} {rn rc : Nat} {OA : Option Addr} {on oc : Nat} {N : NetM} (h : NetC w i GA gn gc RA rn rc OA on oc N) (hk : Keeps w w') : NetC w' i GA gn gc RA rn rc OA on oc N :=
  ⟨h.ins, h.gates.keep hk, h.regs.keep hk, h.outs.keep hk, h.gl, h.rl, h.ol⟩
/-- A net, as a value. -/
abbrev netV (i : Int) (GA : Option Addr) (gn gc : Nat) (RA : Option Addr) (rn rc : Nat) (OA : Option Addr) (on oc : Nat) : Value :=
  .agg #[I i, .slice GA gn gc, .slice RA rn rc, .slice OA on oc]
/-- A net laid in a block of its own. -/
def NetBox (w : World) (b : Nat) (i : Int) (GA : Option Addr) (gn gc : Nat) (RA : Option Addr) (rn rc : Nat) (OA : Option Addr) (on oc : Nat) : Prop :=
  w.cell? ⟨b, 0, none⟩ = some (I i) ∧ w.cell? ⟨b, 1, none⟩ = some (.slice GA gn gc) ∧ w.cell? ⟨b, 2, none⟩ = some (.slice RA rn rc) ∧ w.cell? ⟨b, 3, none⟩ = some (.slice OA on oc)
theorem NetBox.keep {w w' : World} {b : Nat} {i : Int} {GA : Option Addr} {gn gc : Nat} {RA : Option Addr} {rn rc : Nat} {OA : Option Addr} {on oc : Nat} (h : NetBox w b i GA gn gc RA rn rc OA on oc) (hk : Keeps w w') : NetBox w' b i GA gn gc RA rn rc OA on oc :=
  ⟨hk _ _ h.1, hk _ _ h.2.1, hk _ _ h.2.2.1, hk _ _ h.2.2.2⟩
theorem NetBox.new (w : World) (i : Int) (GA : Option Addr) (gn gc : Nat) (RA : Option Addr) (rn rc : Nat) (OA : Option Addr) (on oc : Nat) (T : TypeId) : NetBox (w.alloc (.cells #[I i, .slice GA gn gc, .slice RA rn rc, .slice OA on oc] T)) w.heap.size i GA gn gc RA rn rc OA on oc :=
  ⟨by rw [World.cell?_alloc_new]; rfl, by rw [World.cell?_alloc_new]; rfl, by rw [World.cell?_alloc_new]; rfl, by rw [World.cell?_alloc_new]; rfl⟩

def indexB (v : Bool) : List Bool → Int → Int
  | [], _ => -1
  | x :: l, k => if x = v then k else indexB v l (k + 1)
theorem indexB_lo (v : Bool) (l : List Bool) : ∀ k : Int, 0 ≤ k → decide (0 ≤ indexB v l k) = l.contains v := by
  induction l with
  | nil => intro k _; simp [indexB]
  | cons x l ih =>
    intro k hk
    by_cases h : x = v
    · subst h; simp [indexB, hk]
    · have h' : ¬ v = x := fun e => h e.symm
      simp only [indexB, if_neg h, ih (k + 1) (by omega), List.contains_cons]
      simp [h']

theorem indexBool_any (A : Option Addr) (n c : Nat) (xs : List Bool) (v : Bool) (w : World) (h : Sl w A n (xs.map Bv)) (hn : n ≤ maxLen) :
    Calls Try.prog 139 #[.slice A n c, Bv v] w fun e w' => e = .returned (I (indexB v xs 0)) ∧ w = w' := by
  unfold maxLen at hn
  have H := Lib.hid h; clear h
  go_enter Try.func139, Try.ntmps139
  go_wp2
  go_loop [8] (fun i => ∃ (k : Nat), k ≤ n ∧ i = .int .i64 k ∧ indexB v (xs.drop k) k = indexB v xs 0) (fun i => n - (intOf i).toNat)
  case atStart => exact ⟨0, Nat.zero_le _, rfl, rfl⟩
  case round =>
    obtain ⟨k, hk, rfl, hM⟩ := hrel
    by_cases hlt : k < n
    · obtain ⟨b, off, x, rfl, hc, hd⟩ := H.out.next hlt
      rw [hd, indexB] at hM
      have HM := Lib.hid hM; clear hM hd
      by_cases hx : x = v
      · subst hx
        go_wp2
        go_ret; exact ⟨ret_int (by rw [← HM.out]; simp), rfl⟩
      · have g : (v == x) = false := by simpa using fun e => hx (Eq.symm e)
        have HX := Lib.hid hx; clear hx
        go_wp2
        go_round
        case rel => exact ⟨k + 1, by omega, by go_num, by rw [← HM.out, if_neg HX.out]; simp⟩
        case measure => simp [intOf]; omega
    · rw [H.out.drop_end hlt, indexB] at hM
      have HM := Lib.hid hM; clear hM
      go_wp2
      go_ret; exact ⟨ret_int HM.out, rfl⟩
theorem containsBool_any (A : Option Addr) (n c : Nat) (xs : List Bool) (v : Bool) (w : World) (h : Sl w A n (xs.map Bv)) (hn : n ≤ maxLen) :
    Calls Try.prog 131 #[.slice A n c, Bv v] w fun e w' => e = .returned (.bool (xs.contains v)) ∧ w = w' := by
  have H := Lib.hid h; clear h
  have HM := Lib.hid (indexB_lo v xs 0 (Int.le_refl _))
  go_enter Try.func131, Try.ntmps131
  go_wp2_with fail
  refine (indexBool_any A n c xs v w H.out hn).mono ?_; rintro e w' ⟨rfl, rfl⟩
  go_wp2
  go_ret; exact ⟨ret_bool HM.out, rfl⟩

/-- What is thrown. -/
abbrev thrown (e : Int) : PanicEntry := { v := .iface 127 (.agg #[I e]), recovered := false }
theorem must_ok (A : Option Addr) (n c : Nat) (xs : List Bool) (e : Int) (w : World) (h : Sl w A n (xs.map Bv)) (hn : n ≤ maxLen) (hx : xs.contains false = false) :
    Calls Try.prog 113 #[I e, .slice A n c] w fun e' w' => e' = .returned (.tuple #[]) ∧ w = w' := by
  have H := Lib.hid h; have HX := Lib.hid hx; clear h hx
  go_enter Try.func113, Try.ntmps113
  go_wp2_with fail
  refine (containsBool_any A n c xs false w H.out hn).mono ?_; rintro e w' ⟨rfl, rfl⟩; rw [HX.out]
  go_wp2
  go_end0
  exact ⟨rfl, rfl⟩
theorem must_bad (A : Option Addr) (n c : Nat) (xs : List Bool) (e : Int) (w : World) (h : Sl w A n (xs.map Bv)) (hn : n ≤ maxLen) (hx : xs.contains false = true) :
    Calls Try.prog 113 #[I e, .slice A n c] w fun e' w' => e' = .panicked [thrown e] ∧ w = w' := by
  have H := Lib.hid h; have HX := Lib.hid hx; clear h hx
  go_enter Try.func113, Try.ntmps113
  go_wp2_with fail
  refine (containsBool_any A n c xs false w H.out hn).mono ?_; rintro e w' ⟨rfl, rfl⟩; rw [HX.out]
  go_wp2
  exact ⟨rfl, rfl, rfl⟩
end Go.Proofs.Ytjagbnaacfhokaa
