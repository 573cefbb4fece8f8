/- Aids for a row's closed facts in a large translation: piece by piece, and 'recurses' by one witness. -/
import Derived.Test.YtlafiddfplhafaaChecked
import Derived.ProofKit
import Derived.WalkKit
import Derived.WalkLawsBesides
import Derived.WalkSpells
import Derived.Deep.QuietTactic
import Derived.BigQuiet
import Derived.Lib.Hide
import Derived.Deep.LoopGhost
import Derived.Deep.Draws
import Derived.Laws.OwnMore
import Derived.Deep.AppendLies
import Derived.Laws.Rows
import Derived.Deep.Slices
import Derived.Deep.Fields
import Derived.ChangeSame
import Derived.OpenShut
import Derived.SizedLaws
namespace Go.Proofs.Ytlafiddfplhafaa
set_option linter.unusedVariables false
set_option linter.unusedSimpArgs false
set_option linter.unusedVariables false
set_option linter.unusedSimpArgs false
theorem band {a b : Bool} (h : a = true) (k : b = true) : (a && b) = true := by rw [h, k]; rfl
end Go.Proofs.Ytlafiddfplhafaa
/- The head of the translation: which words it opens with, and the facts of each row that hang on them. -/
namespace Go.Proofs.Ytlafiddfplhafaa
set_option linter.unusedVariables false
set_option linter.unusedSimpArgs false
def headH : List Nat := [104, 97, 114, 110, 101, 115, 115]
def headS : List Nat := [50, 102, 53, 55, 101, 54, 55, 53, 51, 53, 102, 101, 97, 54, 55, 102, 54, 49, 99, 53, 102, 48, 55, 102, 98, 53, 99, 102, 54, 52, 54, 99, 50, 97, 54, 51, 100, 49, 48, 97, 101, 97, 97, 56, 97, 50, 50, 52, 98, 100, 54, 97, 53, 57, 48, 98, 100, 53, 101, 99, 53, 98, 52, 51]
def headC : List Nat := [99, 117, 116]
def headR : List Nat := [97, 116, 32, 108, 105, 110, 99, 104, 112, 105, 110, 47, 108, 105, 110, 99, 104, 112, 105, 110, 108, 97, 119, 46, 70, 111, 114, 103, 101, 82, 117, 110, 115, 32, 108, 105, 110, 99, 104, 112, 105, 110, 47, 108, 105, 110, 99, 104, 112, 105, 110, 108, 97, 119, 46, 70, 111, 114, 103, 101, 83, 97, 109, 101, 32, 108, 105, 110, 99, 104, 112, 105, 110, 47, 108, 105, 110, 99, 104, 112, 105, 110, 108, 97, 119, 46, 70, 111, 114, 103, 101, 71, 111, 111, 100, 32, 108, 105, 110, 99, 104, 112, 105, 110, 47, 108, 105, 110, 99, 104, 112, 105, 110, 108, 97, 119, 46, 70, 111, 114, 103, 101, 83, 119, 101, 112, 116]
def headAll : List Nat := headH ++ 32 :: (headS ++ 32 :: (headC ++ 32 :: headR))
theorem head_is : Try.prog.initOrder = String.ofList (headAll.map Char.ofNat) := by kernel_rfl
theorem words_cons (a b : List Char) (h : a.all (fun c => c != Char.ofNat 32) = true) : wordsSigns (a ++ Char.ofNat 32 :: b) = a :: wordsSigns b := by
  induction a with
  | nil => rfl
  | cons c a ih =>
    simp only [List.all_cons, Bool.and_eq_true, bne_iff_ne] at h
    have hc : c ≠ Char.ofNat 32 := h.1
    have e : wordsSigns (c :: (a ++ Char.ofNat 32 :: b)) = (match wordsSigns (a ++ Char.ofNat 32 :: b) with | w :: ws => (c :: w) :: ws | [] => [[c]]) := by
      rw [wordsSigns] <;> first | rfl | (intro e; exact hc e) | exact hc
    rw [List.cons_append, e, ih h.2]
theorem head_words : wordsSigns Try.prog.initOrder.toList = headH.map Char.ofNat :: headS.map Char.ofNat :: headC.map Char.ofNat :: wordsSigns (headR.map Char.ofNat) := by
  rw [head_is, String.toList_ofList]
  unfold headAll
  simp only [List.map_append, List.map_cons]
  rw [words_cons _ _ (by decide +kernel), words_cons _ _ (by decide +kernel), words_cons _ _ (by decide +kernel)]
theorem head_behind : behindMainWord (wordsSigns Try.prog.initOrder.toList) = headC.map Char.ofNat :: wordsSigns (headR.map Char.ofNat) := by
  rw [head_words]
  simp only [behindMainWord]
  rw [if_pos (by decide +kernel)]
theorem head_cut : behindMainWord (wordsSigns Try.prog.initOrder.toList) = "cut".toList :: wordsSigns (headR.map Char.ofNat) := by
  rw [head_behind]; congr 1
theorem strip_cut (R : List (List Char)) : stripLifts liftWords ("cut".toList :: R) = ([], "cut".toList :: R) := by rfl
theorem later : Try.prog.laysLater = false := by kernel_rfl
theorem reflects : Try.prog.bearsReflect = false := by kernel_rfl
theorem doors : Try.prog.doorFits [] = true := by kernel_rfl
theorem mayEnter_of {P : Program} {R : List (List Char)} (h : behindMainWord (wordsSigns P.initOrder.toList) = "cut".toList :: R) (h1 : P.laysLater = false) (h2 : P.bearsReflect = false) (h3 : P.doorFits [] = true) : P.mayEnter = true := by
  unfold Program.mayEnter
  rw [h]
  simp only [strip_cut, h1, h2, h3]
  simp
theorem liftsFinal_of {P : Program} {R : List (List Char)} (h : behindMainWord (wordsSigns P.initOrder.toList) = "cut".toList :: R) : P.liftsFinal = false := by
  unfold Program.liftsFinal Program.headLifts
  rw [h]
  simp only [strip_cut]
  simp
theorem make_of {P : Program} {R : List (List Char)} (h : behindMainWord (wordsSigns P.initOrder.toList) = "cut".toList :: R) : P.make = some .cut := by
  unfold Program.make
  rw [h]
  simp
theorem may_enter : Try.prog.mayEnter = true := mayEnter_of head_cut later reflects doors
theorem lifts_final : Try.prog.liftsFinal = false := liftsFinal_of head_cut
theorem make_cut : Try.prog.make = some .cut := make_of head_cut
end Go.Proofs.Ytlafiddfplhafaa
/- Words on memory that all walks of this seat share: a slice that reads as a list, worlds that keep what was there. No program in sight. -/
namespace Go.Proofs.Ytlafiddfplhafaa
set_option linter.unusedVariables false
set_option linter.unusedSimpArgs false
open Go.RowKit
abbrev I (n : Int) : Value := .int .i64 n
/-- What is a cell stays the same cell. -/
def Keeps (w w' : World) : Prop := ∀ p u, w.cell? p = some u → w'.cell? p = some u
theorem Keeps.refl (w : World) : Keeps w w := fun _ _ h => h
theorem Keeps.trans {a b c : World} (h : Keeps a b) (k : Keeps b c) : Keeps a c := fun p u e => k p u (h p u e)
theorem lt_of_cell {w : World} {p : Addr} {u : Value} (h : w.cell? p = some u) : p.block < w.heap.size := by
  unfold World.cell? at h
  rcases Nat.lt_or_ge p.block w.heap.size with hl | hl
  · exact hl
  · rw [Array.getElem?_eq_none hl] at h; cases h
theorem Keeps.of_below {w w' : World} (h : Below w.heap.size w w') : Keeps w w' := fun p u e => (h.cell (lt_of_cell e)).trans e
theorem Keeps.drewN (w : World) (n : Nat) : Keeps w (w.drewN n) := fun _ _ h => h
theorem Keeps.drew (w : World) : Keeps w w.drew := fun _ _ h => h
theorem Keeps.alloc (w : World) (o : Obj) : Keeps w (w.alloc o) := fun p u e => (World.cell?_alloc_lt w o p (lt_of_cell e)).trans e
theorem below_drewN' {B : Nat} {a w : World} (h : Below B a w) (n : Nat) : Below B a (w.drewN n) := ⟨h.os, h.tape, h.output, h.size, h.block⟩
/-- All that was there is as it was; new memory may have come. -/
def Ext (w w' : World) : Prop := Below w.heap.size w w'
section
variable {a b c : World}
theorem Ext.refl (w : World) : Ext w w := Below.refl _ _
theorem Ext.size (h : Ext a b) : a.heap.size ≤ b.heap.size := Below.size h
theorem Ext.trans (h : Ext a b) (k : Ext b c) : Ext a c := Below.trans h (Below.mono k (Below.size h))
theorem Ext.alloc (h : Ext a b) (o : Obj) : Ext a (b.alloc o) := Below.alloc h (Below.size h) o
theorem Ext.drewN (h : Ext a b) (n : Nat) : Ext a (b.drewN n) := below_drewN' h n
theorem Ext.drew (h : Ext a b) : Ext a b.drew := below_drewN' h 1
theorem Ext.setCell (h : Ext a b) {p : Addr} (hp : a.heap.size ≤ p.block) (v : Value) : Ext a (b.setCell p v) := Below.setCell h hp v
theorem Ext.keeps (h : Ext a b) : Keeps a b := Keeps.of_below h
end
/-- A slice's head, n places of one cell each, that reads cs. -/
def Sl (w : World) (A : Option Addr) (n : Nat) (cs : List Value) : Prop :=
  cs.length = n ∧ ∀ k u, cs[k]? = some u → ∃ b off, A = some ⟨b, off, none⟩ ∧ w.cell? ⟨b, off + k, none⟩ = some u
section
variable {w w' : World} {A : Option Addr} {n : Nat} {cs : List Value}
theorem Sl.keep (h : Sl w A n cs) (hk : Keeps w w') : Sl w' A n cs :=
  ⟨h.1, fun k u hu => let ⟨b, o, e, hc⟩ := h.2 k u hu; ⟨b, o, e, hk _ _ hc⟩⟩
theorem Sl.nil (w : World) (A : Option Addr) : Sl w A 0 [] := ⟨rfl, fun k u h => by simp at h⟩
theorem Sl.len {α : Type} {f : α → Value} {xs : List α} (h : Sl w A n (xs.map f)) : xs.length = n := by simpa using h.1
theorem Sl.at_ {α : Type} {f : α → Value} {xs : List α} (h : Sl w A n (xs.map f)) {k : Nat} (hk : k < n) :
    ∃ b off x, A = some ⟨b, off, none⟩ ∧ w.cell? ⟨b, off + k, none⟩ = some (f x) ∧ xs[k]? = some x := by
  have hl : k < xs.length := by have := h.len; omega
  obtain ⟨b, off, e, hc⟩ := h.2 k (f xs[k]) (by simp [List.getElem?_eq_getElem hl])
  exact ⟨b, off, xs[k], e, hc, List.getElem?_eq_getElem hl⟩
theorem Sl.next {α : Type} {f : α → Value} {xs : List α} (h : Sl w A n (xs.map f)) {k : Nat} (hk : k < n) :
    ∃ b off x, A = some ⟨b, off, none⟩ ∧ w.cell? ⟨b, off + k, none⟩ = some (f x) ∧ xs.drop k = x :: xs.drop (k + 1) := by
  have hl : k < xs.length := by have := h.len; omega
  obtain ⟨b, off, e, hc⟩ := h.2 k (f xs[k]) (by simp [List.getElem?_eq_getElem hl])
  exact ⟨b, off, xs[k], e, hc, List.drop_eq_getElem_cons hl⟩
theorem Sl.drop_end {α : Type} {f : α → Value} {xs : List α} (h : Sl w A n (xs.map f)) {k : Nat} (hk : ¬ k < n) : xs.drop k = [] := by
  have := h.len; exact List.drop_eq_nil_of_le (by omega)
end
theorem add_plain' (b o k : Nat) : (⟨b, o, none⟩ : Addr).add k = ⟨b, o + k, none⟩ := by unfold Addr.add; split <;> simp_all
theorem spot_none {w : World} {a : Addr} {k : Nat} {u : Value} (h : w.cell? (a.add k) = some u) (hk : k = 0) : a.spot = none := by
  subst hk
  obtain ⟨b, o, s⟩ := a
  cases s with
  | none => rfl
  | some x => simp [Addr.add, World.cell?] at h; split at h <;> simp at h
theorem sl_of_row {w : World} {x : Addr} {len cap : Nat} {zs : List Int} (hl : len ≤ cap) (hz : zs.length = cap)
    (hc : ∀ i, i < zs.length → w.cell? (x.add i) = some (.int .i64 (zs.getD i 0))) : Sl w (some x) len ((zs.take len).map I) := by
  refine ⟨by simp; omega, fun k u hu => ?_⟩
  rw [List.getElem?_map, List.getElem?_take] at hu
  split at hu
  · rename_i hk
    have hs : x.spot = none := spot_none (hc 0 (by omega)) rfl
    obtain ⟨b, o, s⟩ := x
    subst hs
    refine ⟨b, o, rfl, ?_⟩
    have h := hc k (by omega)
    rw [add_plain'] at h
    rw [h, List.getD_eq_getElem?_getD]
    rw [List.getElem?_eq_getElem (by omega)] at hu ⊢
    simpa using hu
  · simp at hu
theorem add_zero (b k : Nat) : (⟨b, 0, none⟩ : Addr).add k = ⟨b, k, none⟩ := by unfold Addr.add; split <;> simp_all
theorem Sl.new (w : World) (cs : List Value) (T : TypeId) : Sl (w.alloc (.cells cs.toArray T)) (some ⟨w.heap.size, 0, none⟩) cs.length cs :=
  ⟨rfl, fun k u hu => ⟨_, _, rfl, by rw [World.cell?_alloc_new]; simpa using hu⟩⟩
theorem Sl.newAt (w : World) (b : Nat) (cs : List Value) (T : TypeId) (hb : b = w.heap.size) : Sl (w.alloc (.cells cs.toArray T)) (some ⟨b, 0, none⟩) cs.length cs := by
  subst hb; exact Sl.new w cs T
/-! rows that the call itself made -/
theorem own_ext {w w' : World} {base : Nat} {e : TypeId} {size n : Nat} {v : Value} {xs : List Value} (h : w.ownsRow base e size v n xs) (hx : Ext w w') : w'.ownsRow base e size v n xs := by
  rcases h with ⟨hl, ⟨rfl, rfl⟩ | ⟨g, cap, cur, rfl, hg, hh, r⟩⟩
  · exact ⟨hl, .inl ⟨rfl, rfl⟩⟩
  · refine ⟨hl, .inr ⟨g, cap, cur, rfl, hg, ?_, r⟩⟩
    have hlt : g < w.heap.size := by
      rcases Nat.lt_or_ge g w.heap.size with h | h
      · exact h
      · rw [Array.getElem?_eq_none h] at hh; cases hh
    exact (hx.block g hlt).trans hh
theorem own_base {w : World} {base base' : Nat} {e : TypeId} {size n : Nat} {v : Value} {xs : List Value} (h : w.ownsRow base e size v n xs) (hb : base' ≤ base) : w.ownsRow base' e size v n xs := by
  rcases h with ⟨hl, h | ⟨g, cap, cur, hv, hg, r⟩⟩
  · exact ⟨hl, .inl h⟩
  · exact ⟨hl, .inr ⟨g, cap, cur, hv, by omega, r⟩⟩
theorem own_slice {w : World} {base : Nat} {e : TypeId} {size n : Nat} {v : Value} {xs : List Value} (h : w.ownsRow base e size v n xs) :
    ∃ A c, v = .slice A n c ∧ n ≤ c ∧ c ≤ maxLen ∧ ∀ k u, xs[k]? = some u → ∃ b off, A = some ⟨b, off, none⟩ ∧ w.cell? ⟨b, off + k, none⟩ = some u := by
  have h' := h
  rcases h with ⟨hl, ⟨rfl, rfl⟩ | ⟨g, cap, cur, rfl, hg, hh, hnc, hm, r⟩⟩
  · refine ⟨none, 0, rfl, Nat.le_refl _, Nat.zero_le _, fun k u hu => ?_⟩
    have : xs = [] := List.eq_nil_of_length_eq_zero (by simpa using hl)
    subst this; simp at hu
  · exact ⟨_, _, rfl, hnc, hm, fun k u hu => ⟨_, _, rfl, by have := h'.cells rfl k u hu; rwa [add_plain'] at this⟩⟩
theorem own_sl {w : World} {base : Nat} {e : TypeId} {n : Nat} {v : Value} {xs : List Value} (h : w.ownsRow base e 1 v n xs) : ∃ A c, v = .slice A n c ∧ n ≤ c ∧ c ≤ maxLen ∧ Sl w A n xs := by
  obtain ⟨A, c, hv, h1, h2, hc⟩ := own_slice h
  exact ⟨A, c, hv, h1, h2, by have := h.1; omega, hc⟩
/-- append of one element onto a row of the call's own, behind the store of the element into its new block. -/
theorem wpList_push {P : Program} {ops : Array Oper} {rest : List Oper} {o : Oper} {a : Act} {Q : Exit → Act → World → Prop} {w : World} (hgd : o.guard = none) (s x : Operand) (t e : TypeId)
    (ho : o.op = .call { callee := .builtin .append, args := #[s, x], argTypes := #[t, t] })
    {z : Value} {size bytes : Nat} (tab : (P.info? e).map (fun i => (i.zero, i.size, i.bytes)) = some (some z, size, bytes)) (ht : P.underlying t = some (.slice e)) (hzs : z.cells.size = size) (hsz : 0 < size)
    (W0 w0 : World) (hext : Ext W0 w0) (v : Value) (n : Nat) (xs : List Value) (hs : a.eval s = v) (hown : w0.ownsRow W0.heap.size e size v n xs)
    (news : List Value) (hl : news.length = size) (hw : w = w0.alloc (.cells news.toArray e)) (hx : a.eval x = .slice (some ⟨w0.heap.size, 0, none⟩) 1 1) (h1 : ∀ u ∈ news, u.oneCell' = true)
    (h63 : n + 1 ≤ maxLen) (hbytes : (n + 1) * bytes ≤ 140737488355328)
    (h : ∀ v' w', w'.ownsRow W0.heap.size e size v' (n + 1) (xs ++ news) → Ext W0 w' → w0.grownBy w' v.ownBlock → wpList P ops Q rest (a.put o.dst v') w') : wpList P ops Q (o :: rest) a w := by
  subst hw
  obtain ⟨i, hi, hz, hs1, hs2⟩ := info_parts tab
  refine wpList_append_own _ hgd s x t ho W0.heap.size e i z size bytes ht hi hz hs1 hs2 hzs hsz v n xs hs (hown.alloc _) ⟨w0.heap.size, 0, none⟩ 1 1 news hx (by omega) (fun j u hu => ?_) h1 h63 hbytes (Nat.le_trans hext.size (by simp)) ?_
  · rw [add_zero, World.cell?_alloc_new]; simpa using hu
  · intro v' w' hown' hg _
    refine h v' w' hown' (Below.grown (hext.alloc _) hg (Nat.le_trans hext.size (by simp)) (fun k hk => (hown.lt k hk).1)) ?_
    exact ⟨hg.os, hg.tape, hg.output, Nat.le_trans (by simp) hg.size, fun k hk hne => (hg.block k (by simp; omega) hne).trans (Below.heap_alloc w0 _ k hk)⟩
theorem ret_int {k : IntKind} {a b : Int} (h : a = b) : Ending.returned (.int k a) = .returned (.int k b) := by rw [h]
theorem ret_bool {a b : Bool} (h : a = b) : Ending.returned (.bool a) = .returned (.bool b) := by rw [h]
/-- A pair that a call hands back. -/
abbrev Pr (a b : Value) : Value := .tuple #[a, b]
/-- A slice of structs of two cells (or any pair of cells): the reading of place k is f of the k-th element. -/
def Sl2 {α : Type} (f g : α → Value) (w : World) (A : Option Addr) (n : Nat) (xs : List α) : Prop :=
  xs.length = n ∧ ∀ k x, xs[k]? = some x → ∃ b off, A = some ⟨b, off, none⟩ ∧ w.cell? ⟨b, off + k * 2, none⟩ = some (f x) ∧ w.cell? ⟨b, off + k * 2 + 1, none⟩ = some (g x)
section
variable {α : Type} {f g : α → Value} {w w' : World} {A : Option Addr} {n : Nat} {xs : List α}
theorem Sl2.keep (h : Sl2 f g w A n xs) (hk : Keeps w w') : Sl2 f g w' A n xs :=
  ⟨h.1, fun k u hu => let ⟨b, o, e, hc, hd⟩ := h.2 k u hu; ⟨b, o, e, hk _ _ hc, hk _ _ hd⟩⟩
theorem Sl2.nil (f g : α → Value) (w : World) (A : Option Addr) : Sl2 f g w A 0 [] := ⟨rfl, fun k u h => by simp at h⟩
theorem Sl2.next (h : Sl2 f g w A n xs) {k : Nat} (hk : k < n) :
    ∃ b off x, A = some ⟨b, off, none⟩ ∧ w.cell? ⟨b, off + k * 2, none⟩ = some (f x) ∧ w.cell? ⟨b, off + k * 2 + 1, none⟩ = some (g x) ∧ xs.drop k = x :: xs.drop (k + 1) ∧ xs[k]? = some x := by
  have hl : k < xs.length := by have := h.1; omega
  obtain ⟨b, off, e, hc, hd⟩ := h.2 k xs[k] (List.getElem?_eq_getElem hl)
  exact ⟨b, off, xs[k], e, hc, hd, List.drop_eq_getElem_cons hl, List.getElem?_eq_getElem hl⟩
theorem Sl2.drop_end (h : Sl2 f g w A n xs) {k : Nat} (hk : ¬ k < n) : xs.drop k = [] := by
  have := h.1; exact List.drop_eq_nil_of_le (by omega)
end
abbrev Bv (b : Bool) : Value := .bool b
abbrev Pr3 (a b c : Value) : Value := .tuple #[a, b, c]
/-- The new row of a make: n times z. -/
def zeros (z : Value) (n : Nat) : Array Value := madeCells #[z] n
theorem run_make1 {P : Program} (t e : TypeId) {z : Value} {bytes : Nat} (tab : (P.info? e).map (fun i => (i.zero, i.size, i.bytes)) = some (some z, 1, bytes)) (ht : P.underlying t = some (.slice e)) (hz1 : z.cells = #[z])
    (n : Nat) (hb : bytes * n ≤ 281474976710656) (h63 : n ≤ 9223372036854775807) (w : World) :
    (Instr.makeSlice t (.int .i64 (n : Int)) (.int .i64 (n : Int))).run P w = .ok (.slice (some ⟨w.heap.size, 0, none⟩) n n) (w.alloc (.cells (zeros z n) e)) := by
  obtain ⟨i, hi, hz, hs1, hs2⟩ := info_parts tab
  have hb' : (i.bytes : Int) * (n : Int) ≤ 281474976710656 := by
    rw [hs2]
    have h : ((bytes * n : Nat) : Int) ≤ 281474976710656 := by omega
    rwa [Int.natCast_mul] at h
  have hr := run_make (P := P) w t e i z ht hi hz .i64 .i64 n n (by omega) (by omega) hb' (by omega)
  simp only [Int.toNat_natCast, hs1, hz1, Nat.mul_one] at hr
  exact hr
theorem own_made (w : World) (e : TypeId) (z : Value) (n base : Nat) (hb : base ≤ w.heap.size) (hm : n ≤ maxLen) :
    (w.alloc (.cells (zeros z n) e)).ownsRow base e 1 (.slice (some ⟨w.heap.size, 0, none⟩) n n) n (List.replicate n z) := by
  refine ⟨by simp, .inr ⟨w.heap.size, n, zeros z n, rfl, hb, heap_alloc_new w _, Nat.le_refl _, hm, by simp [zeros, size_madeCells], ?_⟩⟩
  rw [zeros, toList_madeCells_one, Nat.mul_one, List.take_of_length_le (by simp)]
/-- A place of an own row: its cell, and that it may be written. -/
theorem own_at {w : World} {base : Nat} {e : TypeId} {g n c : Nat} {xs : List Value} (h : w.ownsRow base e 1 (.slice (some ⟨g, 0, none⟩) n c) n xs) {k : Nat} (hk : k < n) :
    (∃ u, xs[k]? = some u ∧ w.cell? ⟨g, k, none⟩ = some u) ∧ w.frozen? ⟨g, k, none⟩ = false ∧ base ≤ g := by
  have hl : k < xs.length := by have := h.1; omega
  refine ⟨⟨xs[k], List.getElem?_eq_getElem hl, ?_⟩, h.frozenAt k, (h.lt g rfl).1⟩
  rw [h.cellAt k (by omega), List.getElem?_eq_getElem hl]
theorem own_form {w : World} {base : Nat} {e : TypeId} {size n : Nat} {v : Value} {xs : List Value} (h : w.ownsRow base e size v n xs) (hn : 0 < n) : ∃ g c, v = .slice (some ⟨g, 0, none⟩) n c := by
  rcases h.2 with ⟨_, h0⟩ | ⟨g, cap, cur, hv, _⟩
  · omega
  · exact ⟨g, cap, hv⟩
theorem flat2_get {α : Type} (f g : α → Value) (xs : List α) : ∀ k, (xs.flatMap fun x => [f x, g x])[k * 2]? = xs[k]?.map f ∧ (xs.flatMap fun x => [f x, g x])[k * 2 + 1]? = xs[k]?.map g := by
  induction xs with
  | nil => intro k; simp
  | cons x xs ih =>
    intro k
    cases k with
    | zero => simp
    | succ k =>
      have := ih k
      rw [show (k + 1) * 2 = k * 2 + 2 from by omega]
      simpa using this
theorem Sl2.newAt {α : Type} (f g : α → Value) (w : World) (b : Nat) (xs : List α) (cs : Array Value) (T : TypeId) (hb : b = w.heap.size) (hcs : cs = (xs.flatMap fun x => [f x, g x]).toArray) : Sl2 f g (w.alloc (.cells cs T)) (some ⟨b, 0, none⟩) xs.length xs := by
  subst hb; subst hcs
  refine ⟨rfl, fun k x hx => ⟨_, _, rfl, ?_, ?_⟩⟩
  · rw [World.cell?_alloc_new, Nat.zero_add]; simp only [List.getElem?_toArray]; rw [(flat2_get f g xs k).1, hx]; rfl
  · rw [World.cell?_alloc_new, Nat.zero_add]; simp only [List.getElem?_toArray]; rw [(flat2_get f g xs k).2, hx]; rfl
theorem Sl2.sub {α : Type} {f g : α → Value} {w : World} {b off n : Nat} {xs : List α} (h : Sl2 f g w (some ⟨b, off, none⟩) n xs) (lo m : Nat) (hm : lo + m ≤ n) :
    Sl2 f g w (some ⟨b, off + lo * 2, none⟩) m ((xs.drop lo).take m) := by
  refine ⟨by have := h.1; simp; omega, fun k x hx => ?_⟩
  rw [List.getElem?_take] at hx
  split at hx
  · rw [List.getElem?_drop] at hx
    obtain ⟨b', off', e, h1, h2⟩ := h.2 _ _ hx
    injection e with e; injection e with e1 e2
    subst e1; subst e2
    exact ⟨_, _, rfl, by rw [show off + lo * 2 + k * 2 = off + (lo + k) * 2 from by omega]; exact h1, by rw [show off + lo * 2 + k * 2 + 1 = off + (lo + k) * 2 + 1 from by omega]; exact h2⟩
  · cases hx
theorem append_of_nil {P : Program} (w : World) (base : Nat) (t ty e : TypeId) (i : TypeInfo) (size : Nat) (ht : P.underlying t = some (.slice e)) (hi : P.info? e = some i)
    (v : Value) (n : Nat) (xs : List Value) (hown : w.ownsRow base e size v n xs) (c : Nat) : (Builtin.append_ #[t, t] ty #[v, .slice none 0 c]).run P w = .ok v w := by
  rcases hown.2 with ⟨rfl, rfl⟩ | ⟨g, cap, cur, rfl, _, _, hnc, _⟩
  · simp [Builtin.append_, run_underlying ht, sizeOf, typeInfo, hi, Builtin.lenOf, Builtin.firstCells]
  · simp [Builtin.append_, run_underlying ht, sizeOf, typeInfo, hi, Builtin.lenOf, Builtin.firstCells, hnc, storeCells]
/-- append of all of a slice of one-cell elements onto a row of the call's own. -/
theorem wpList_appendAll {P : Program} {ops : Array Oper} {rest : List Oper} {o : Oper} {a : Act} {Q : Exit → Act → World → Prop} {w : World} (hgd : o.guard = none) (s x : Operand) (t e : TypeId)
    (ho : o.op = .call { callee := .builtin .append, args := #[s, x], argTypes := #[t, t] })
    {z : Value} {bytes : Nat} (tab : (P.info? e).map (fun i => (i.zero, i.size, i.bytes)) = some (some z, 1, bytes)) (ht : P.underlying t = some (.slice e)) (hzs : z.cells.size = 1)
    (W0 : World) (hext : Ext W0 w) (v : Value) (n : Nat) (xs : List Value) (hs : a.eval s = v) (hown : w.ownsRow W0.heap.size e 1 v n xs)
    (A : Option Addr) (m c : Nat) (news : List Value) (hx : a.eval x = .slice A m c) (hr : Sl w A m news) (h1 : ∀ u ∈ news, u.oneCell' = true)
    (h63 : n + m ≤ maxLen) (hbytes : (n + m) * bytes ≤ 140737488355328)
    (h : ∀ v' w', w'.ownsRow W0.heap.size e 1 v' (n + m) (xs ++ news) → Ext W0 w' → w.grownBy w' v.ownBlock → wpList P ops Q rest (a.put o.dst v') w') : wpList P ops Q (o :: rest) a w := by
  obtain ⟨i, hi, hz, hs1, hs2⟩ := info_parts tab
  have hb : ∀ k, v.ownBlock = some k → W0.heap.size ≤ k := fun k hk => (hown.lt k hk).1
  cases A with
  | none =>
    have hm : m = 0 := by
      rcases Nat.eq_zero_or_pos m with e | e
      · exact e
      · have hl : 0 < news.length := by rw [hr.1]; exact e
        obtain ⟨b, off, e2, _⟩ := hr.2 0 _ (List.getElem?_eq_getElem hl)
        cases e2
    subst hm
    have hn : news = [] := List.eq_nil_of_length_eq_zero hr.1
    subst hn
    refine wpList_plain hgd fun K hK => ?_
    unfold Oper.wp execOp
    simp only [ho, resolve, invoke, builtin, Sem.run_bind, Sem.run_pure, Result.andThen_ok, List.map_toArray, List.map_cons, List.map_nil, hs, hx, append_of_nil (P := P) w W0.heap.size t o.type e i 1 ht hi v n xs hown c]
    exact hK _ _ (h v w (by simpa using hown) hext (World.grownBy.refl w _))
  | some ad =>
    have hcells : ∀ j u, news[j]? = some u → w.cell? (ad.add j) = some u := by
      intro j u hu
      obtain ⟨b, off, e2, hc⟩ := hr.2 j u hu
      injection e2 with e2
      subst e2
      rw [add_plain']; exact hc
    refine wpList_append_own _ hgd s x t ho W0.heap.size e i z 1 bytes ht hi hz hs1 hs2 hzs (by omega) v n xs hs hown ad m c news hx (by have := hr.1; omega) hcells h1 h63 hbytes hext.size ?_
    intro v' w' hown' hg _
    exact h v' w' hown' (Below.grown hext hg hext.size hb) hg
theorem own_empty (w : World) (e : TypeId) (size base : Nat) (hb : base ≤ w.heap.size) : (w.alloc (.cells #[] e)).ownsRow base e size (.slice (some ⟨w.heap.size, 0, none⟩) 0 0) 0 [] :=
  World.ownsRow_made w #[] 0 hb (Nat.zero_le _) (by simp)
/-- wpList_push where the element's new block is named by its number. -/
theorem wpList_pushB {P : Program} {ops : Array Oper} {rest : List Oper} {o : Oper} {a : Act} {Q : Exit → Act → World → Prop} {w : World} (hgd : o.guard = none) (s x : Operand) (t e : TypeId)
    (ho : o.op = .call { callee := .builtin .append, args := #[s, x], argTypes := #[t, t] })
    {z : Value} {size bytes : Nat} (tab : (P.info? e).map (fun i => (i.zero, i.size, i.bytes)) = some (some z, size, bytes)) (ht : P.underlying t = some (.slice e)) (hzs : z.cells.size = size) (hsz : 0 < size)
    (W0 w0 : World) (hext : Ext W0 w0) (v : Value) (n : Nat) (xs : List Value) (hs : a.eval s = v) (hown : w0.ownsRow W0.heap.size e size v n xs)
    (news : List Value) (hl : news.length = size) (hw : w = w0.alloc (.cells news.toArray e)) (B : Nat) (hx : a.eval x = .slice (some ⟨B, 0, none⟩) 1 1) (hB : B = w0.heap.size) (h1 : ∀ u ∈ news, u.oneCell' = true)
    (h63 : n + 1 ≤ maxLen) (hbytes : (n + 1) * bytes ≤ 140737488355328)
    (h : ∀ v' w', w'.ownsRow W0.heap.size e size v' (n + 1) (xs ++ news) → Ext W0 w' → w0.grownBy w' v.ownBlock → wpList P ops Q rest (a.put o.dst v') w') : wpList P ops Q (o :: rest) a w :=
  wpList_push hgd s x t e ho tab ht hzs hsz W0 w0 hext v n xs hs hown news hl hw (by rw [hx, hB]) h1 h63 hbytes h
end Go.Proofs.Ytlafiddfplhafaa
/- Programs, in plain Lean. No Go in sight. -/
namespace Go.Proofs.Ytlafiddfplhafaa
set_option linter.unusedVariables false
set_option linter.unusedSimpArgs false
structure PNode where
  kind : Int
  sig : Int
  deriving DecidableEq
def two (k : Int) : Bool := decide (5 ≤ k)
/-- What is left of a list behind n programs. -/
def skipN : Nat → List PNode → Option (List PNode)
  | 0, l => some l
  | _ + 1, [] => none
  | n + 1, x :: l => skipN (if two x.kind then n + 2 else n) l
theorem skipN_zero (l : List PNode) : skipN 0 l = some l := by cases l <;> rfl
theorem skipN_add (l : List PNode) : ∀ a b, skipN (a + b) l = (skipN a l).bind (skipN b) := by
  induction l with
  | nil =>
    intro a b
    cases a with
    | zero => simp [skipN]
    | succ a => rw [show a + 1 + b = (a + b) + 1 from by omega]; rfl
  | cons x l ih =>
    intro a b
    cases a with
    | zero => simp [skipN]
    | succ a =>
      rw [show a + 1 + b = (a + b) + 1 from by omega]
      simp only [skipN]
      split
      · rw [show a + b + 2 = a + 2 + b from by omega, ih]
      · exact ih a b
theorem skip_two (x : PNode) (l : List PNode) (h : two x.kind = true) : skipN 1 (x :: l) = (skipN 1 l).bind (skipN 1) := by
  rw [← skipN_add]; simp [skipN, h]
theorem skip_one (x : PNode) (l : List PNode) (h : two x.kind = false) : skipN 1 (x :: l) = some l := by
  simp [skipN, h, skipN_zero]
theorem skipN_suffix (l : List PNode) : ∀ n r, skipN n l = some r → ∃ d, l = d ++ r := by
  induction l with
  | nil => intro n r h; cases n <;> simp [skipN] at h; exact ⟨[], by simp [h]⟩
  | cons x l ih =>
    intro n r h
    cases n with
    | zero => simp [skipN] at h; exact ⟨[], by simp [h]⟩
    | succ n => obtain ⟨d, hd⟩ := ih _ _ h; exact ⟨x :: d, by simp [hd]⟩
theorem skip_lt {l r : List PNode} (h : skipN 1 l = some r) : r.length < l.length := by
  cases l with
  | nil => simp [skipN] at h
  | cons x l =>
    obtain ⟨d, hd⟩ := skipN_suffix l _ r h
    have := congrArg List.length hd
    simp at this ⊢; omega
/-- Where the next program behind the one at k begins; -1: there is none at k. -/
def oneM (p : List PNode) (k : Int) : Int :=
  if k < 0 then -1 else match skipN 1 (p.drop k.toNat) with
    | some r => (p.length : Int) - r.length
    | none => -1
theorem drop_suffix {p d r : List PNode} (k : Nat) (h : p.drop k = d ++ r) : p.drop (p.length - r.length) = r := by
  have hl := congrArg List.length h
  simp at hl
  have e : p.length - r.length = k + d.length ∨ (r = [] ∧ d = []) := by
    cases r with
    | nil => cases d with
      | nil => right; simp
      | cons => left; simp at hl ⊢; omega
    | cons => left; simp at hl ⊢; omega
  rcases e with e | ⟨rfl, rfl⟩
  · rw [e, ← List.drop_drop, h]; simp
  · simp
theorem oneM_neg (p : List PNode) {k : Int} (h : k < 0) : oneM p k = -1 := by simp [oneM, h]
theorem oneM_big (p : List PNode) {k : Int} (h : (p.length : Int) ≤ k) : oneM p k = -1 := by
  have : ¬ k < 0 := by omega
  have e : p.drop k.toNat = [] := List.drop_eq_nil_of_le (by omega)
  simp [oneM, this, e, skipN]
theorem oneM_leaf {p : List PNode} {k : Nat} {x : PNode} (hx : p[k]? = some x) (h : two x.kind = false) : oneM p k = k + 1 := by
  have hk : k < p.length := (List.getElem?_eq_some_iff.1 hx).1
  have hd : p.drop k = x :: p.drop (k + 1) := by
    rw [List.drop_eq_getElem_cons hk]; congr 1; exact (List.getElem?_eq_some_iff.1 hx).2
  have : ¬ (k : Int) < 0 := by omega
  simp only [oneM, this, if_false, Int.toNat_natCast, hd, skip_one x _ h, List.length_drop]
  omega
theorem oneM_range (p : List PNode) (k : Int) : oneM p k = -1 ∨ (0 ≤ k ∧ k < oneM p k ∧ oneM p k ≤ p.length) := by
  by_cases hk : k < 0
  · left; exact oneM_neg p hk
  · simp only [oneM, hk, if_false]
    cases h : skipN 1 (p.drop k.toNat) with
    | none => simp
    | some r =>
      right
      have := skip_lt h
      simp at this
      simp only []
      omega
theorem oneM_two {p : List PNode} {k : Nat} {x : PNode} (hx : p[k]? = some x) (h : two x.kind = true) : oneM p k = oneM p (oneM p ((k : Int) + 1)) := by
  have hk : k < p.length := (List.getElem?_eq_some_iff.1 hx).1
  have hd : p.drop k = x :: p.drop (k + 1) := by
    rw [List.drop_eq_getElem_cons hk]; congr 1; exact (List.getElem?_eq_some_iff.1 hx).2
  have h0 : ¬ (k : Int) < 0 := by omega
  have h1 : ¬ (k : Int) + 1 < 0 := by omega
  have e1 : ((k : Int) + 1).toNat = k + 1 := by omega
  have hL : oneM p k = match (skipN 1 (p.drop (k + 1))).bind (skipN 1) with | some r => (p.length : Int) - r.length | none => -1 := by
    simp only [oneM, h0, if_false, Int.toNat_natCast, hd, skip_two x _ h]
  rw [hL]
  have hM : oneM p ((k : Int) + 1) = match skipN 1 (p.drop (k + 1)) with | some r => (p.length : Int) - r.length | none => -1 := by
    simp only [oneM, h1, if_false, e1]
  rw [hM]
  cases hs : skipN 1 (p.drop (k + 1)) with
  | none => simp [oneM]
  | some r =>
    obtain ⟨d, hdr⟩ := skipN_suffix _ _ _ hs
    have hr := drop_suffix (k + 1) hdr
    have hlen : r.length ≤ p.length := by
      have := congrArg List.length hdr; simp at this; omega
    have h2 : ¬ (p.length : Int) - r.length < 0 := by omega
    have e2 : ((p.length : Int) - r.length).toNat = p.length - r.length := by omega
    simp only [Option.bind_some, oneM, h2, if_false, e2, hr]
def signsM (kind : Int) : Int := if kind = 4 ∨ kind = 7 then 3 else if kind = 3 ∨ kind = 8 then 3 else 1
def badKind (x : PNode) : Bool := decide (x.kind < 0) || decide (8 < x.kind)
def badSig (x : PNode) : Bool := decide (x.sig < 0) || decide (signsM x.kind ≤ x.sig)
def checkP (p : List PNode) : Int :=
  if 14 < p.length then 2 else if p.any badKind then 4 else if p.any badSig then 3 else if oneM p 0 ≠ p.length then 1 else 0
def waitK (k : Int) : Bool := decide (k = 1) || decide (k = 2) || decide (k = 4)
def ofP (p : List PNode) (k : Nat) : Int × Int × Int :=
  match p[k]? with
  | some x => if two x.kind then ((k : Int) + 1, oneM p ((k : Int) + 1), oneM p k) else (0, 0, oneM p k)
  | none => (0, 0, 0)
/-! the reference -/
theorem skip_all (p : List PNode) : (oneM p 0 = p.length) = (skipN 1 p = some []) := by
  simp only [oneM, Int.lt_irrefl, if_false, Int.toNat_zero, List.drop_zero]
  cases h : skipN 1 p with
  | none => simp
  | some r =>
    have := skip_lt h
    simp only [eq_iff_iff, Option.some.injEq]
    constructor
    · intro e; exact List.eq_nil_of_length_eq_zero (by omega)
    · rintro rfl; simp
theorem checkP_ok {p : List PNode} (h : checkP p = 0) : p.length ≤ 14 ∧ p.any badKind = false ∧ p.any badSig = false ∧ skipN 1 p = some [] := by
  unfold checkP at h
  by_cases h1 : 14 < p.length
  · simp [h1] at h
  · cases hk : p.any badKind with
    | true => simp [h1, hk] at h
    | false =>
      cases hs : p.any badSig with
      | true => simp [h1, hk, hs] at h
      | false =>
        by_cases hq : oneM p 0 = p.length
        · exact ⟨by omega, rfl, rfl, by rwa [skip_all] at hq⟩
        · simp [h1, hk, hs, hq] at h
def playM : List PNode := [⟨5, 0⟩, ⟨6, 0⟩, ⟨5, 0⟩, ⟨4, 0⟩, ⟨3, 0⟩, ⟨5, 0⟩, ⟨1, 0⟩, ⟨3, 1⟩, ⟨5, 0⟩, ⟨1, 0⟩, ⟨8, 0⟩, ⟨3, 2⟩, ⟨2, 0⟩]
end Go.Proofs.Ytlafiddfplhafaa
/- How arguments that are read as data open to the words of Lib: slices of structs of one-cell fields. (open_slice_fields is the guide's page extra-structs, to be copied.) -/
namespace Go.Proofs.Ytlafiddfplhafaa
set_option linter.unusedVariables false
set_option linter.unusedSimpArgs false
open Go.ChangeShapes Go.WideShapes Go.Deep Go.RowKit
section
variable {H : Type} {enc : TypeId × Value → H} {P : Program} {w : World} {base : Nat} {spare : Nat → Bool} {held : Bool}
theorem open_slice_fields {t e : TypeId} {fs : Array Field} {fuel : Nat} {cs : List Value} {x : DataW H × List MemPlace} (ht : P.underlying t = some (.slice e)) (he : P.underlying e = some (.struct fs))
    (hone : oneCellFields P fs = true) (hC : P.cellsOf e = fs.size) (h : DataW.trod enc P w base spare held fuel t cs = some x) :
    (cs = [.slice none 0 0] ∧ x = (.nil, [])) ∨
    ∃ (a : Addr) (len cap m : Nat) (D : Nat → DataW H) (Pl : Nat → List MemPlace), cs = [.slice (some a) len cap] ∧ base ≤ a.block ∧ len ≤ cap ∧ cap ≤ maxLen ∧ m = (if spare a.block then cap else len) ∧
      x = (.slice ((List.range len).map D) ((List.range (m - len)).map fun j => D (len + j)), MemPlace.row a (m * fs.size) ++ (List.range m).flatMap Pl) ∧
      ∀ i, i < m → ∃ (ys : List (DataW H × List MemPlace)) (n : Nat), D i = .agg (ys.map (·.1)) ∧ Pl i = ys.flatMap (·.2) ∧ ys.length = fs.size ∧
        ∀ (j : Nat) (f : Field), fs[j]? = some f → ∃ (v : Value) (y : DataW H × List MemPlace), w.cell? (a.add (i * fs.size + j)) = some v ∧ ys[j]? = some y ∧ DataW.trod enc P w base spare held n f.type [v] = some y := by
  rcases open_slice ht h with h0 | ⟨a, len, cap, m, n, D, Pl, hcs, hb, hl, hm, hmm, hx, hi⟩
  · exact .inl h0
  · refine .inr ⟨a, len, cap, m, D, Pl, hcs, hb, hl, hm, hmm, by rw [hC] at hx; exact hx, fun i him => ?_⟩
    obtain ⟨cs', hc, ht'⟩ := hi i him
    rw [hC] at hc
    obtain ⟨ys, n', hn', hy, hlen, hyl, hf⟩ := DataW.trod_struct he ht'
    obtain ⟨_, hcl, hat⟩ := World.cells?_some hc
    simp only [Prod.mk.injEq] at hy
    refine ⟨ys, n', hy.1, hy.2, hyl, fun j f hj => ?_⟩
    obtain ⟨ho, hk⟩ := hone_of hone j f hj
    have hjl : j < fs.size := (Array.getElem?_eq_some_iff.1 hj).1
    have hcell := hat j hjl
    have hv : cs'[j]? = some (cs'[j]'(by omega)) := List.getElem?_eq_getElem (by omega)
    have h1 := hf j f hj
    rw [ho, hk] at h1
    have hone' : (cs'.drop j).take 1 = [cs'[j]'(by omega)] := by
      rw [List.drop_eq_getElem_cons (by omega)]
      rfl
    rw [hone'] at h1
    have hys : ys[j]? = some (ys[j]'(by omega)) := List.getElem?_eq_getElem (by omega)
    refine ⟨_, _, ?_, hys, h1.trans hys⟩
    rw [← Go.Deep.add_add, hcell, hv]
end
/-- A slice of nodes that is read as data reads as a list of nodes. -/
theorem open_nodes {H : Type} {enc : TypeId × Value → H} {w : World} {base : Nat} {held : Bool} {fuel : Nat} {cs : List Value} {x : DataW H × List MemPlace}
    (h : DataW.trod enc Try.prog w base (fun _ => true) held fuel 22 cs = some x) :
    ∃ (A : Option Addr) (n c : Nat) (p : List PNode), cs = [.slice A n c] ∧ Sl2 (fun x : PNode => I x.kind) (fun x => I x.sig) w A n p ∧ n ≤ c ∧ c ≤ maxLen ∧
      ∀ y ∈ p, (Lit.int .i64 y.kind).wf = true ∧ (Lit.int .i64 y.sig).wf = true := by
  rcases open_slice_fields (P := Try.prog) (fs := _) Try.underlying22 Try.underlying64 (by kernel_rfl) (by kernel_rfl) h with ⟨rfl, rfl⟩ | ⟨a, len, cap, m, D, Pl, rfl, hb, hl, hm, hmm, hx, hf⟩
  · exact ⟨none, 0, 0, [], rfl, Sl2.nil _ _ _ _, Nat.le_refl _, Nat.zero_le _, by simp⟩
  · simp only [if_true] at hmm
    have each : ∀ i, i < len → ∃ y : PNode, w.cell? (a.add (i * 2)) = some (I y.kind) ∧ w.cell? (a.add (i * 2 + 1)) = some (I y.sig) ∧ (Lit.int .i64 y.kind).wf = true ∧ (Lit.int .i64 y.sig).wf = true := by
      intro i hi
      obtain ⟨ys, n, _, _, _, hff⟩ := hf i (by omega)
      obtain ⟨v0, y0, hc0, hy0, ht0⟩ := hff 0 _ rfl
      obtain ⟨v1, y1, hc1, hy1, ht1⟩ := hff 1 _ rfl
      obtain ⟨k0, e0, _, wf0⟩ := DataW.trod_int Try.underlying3 ht0
      obtain ⟨k1, e1, _, wf1⟩ := DataW.trod_int Try.underlying3 ht1
      simp only [List.cons.injEq, and_true] at e0 e1
      subst e0; subst e1
      exact ⟨⟨k0, k1⟩, hc0, hc1, wf0, wf1⟩
    have hlist : ∀ m, m ≤ len → ∃ p : List PNode, p.length = m ∧ ∀ i y, p[i]? = some y → w.cell? (a.add (i * 2)) = some (I y.kind) ∧ w.cell? (a.add (i * 2 + 1)) = some (I y.sig) ∧ (Lit.int .i64 y.kind).wf = true ∧ (Lit.int .i64 y.sig).wf = true := by
      intro m
      induction m with
      | zero => exact fun _ => ⟨[], rfl, by simp⟩
      | succ m ih =>
        intro hm
        obtain ⟨p, hp, hp2⟩ := ih (by omega)
        obtain ⟨y, hy⟩ := each m (by omega)
        refine ⟨p ++ [y], by simp [hp], fun i z hz => ?_⟩
        rw [List.getElem?_append] at hz
        split at hz
        · exact hp2 i z hz
        · rename_i hlt
          have hi : i = m := by
            rcases Nat.eq_or_lt_of_le (show m ≤ i by omega) with e | e
            · exact e.symm
            · rw [List.getElem?_eq_none (by simp; omega)] at hz; cases hz
          subst hi
          simp [hp] at hz; subst hz
          exact hy
    obtain ⟨p, hp, hp2⟩ := hlist len (Nat.le_refl _)
    refine ⟨some a, len, cap, p, rfl, ⟨hp, fun k y hxk => ?_⟩, hl, hm, fun y hy => ?_⟩
    · obtain ⟨h0, h1, _⟩ := hp2 k y hxk
      have hs : a.spot = none := by
        have h00 := World.cell?_spot h0
        unfold Addr.add at h00; split at h00
        · exact h00
        · rename_i hk
          obtain ⟨b, o, s⟩ := a
          have h01 := (hp2 0 (p[0]'(by have := (List.getElem?_eq_some_iff.1 hxk).1; omega)) (List.getElem?_eq_getElem _)).1
          simpa [Addr.add] using World.cell?_spot h01
      obtain ⟨b, o, s⟩ := a
      subst hs
      rw [add_plain'] at h0 h1
      exact ⟨b, o, rfl, h0, by rw [Nat.add_assoc]; exact h1⟩
    · obtain ⟨i, hi⟩ := List.mem_iff_getElem?.1 hy
      exact (hp2 i y hi).2.2
end Go.Proofs.Ytlafiddfplhafaa
/- Package prog walked. -/
namespace Go.Proofs.Ytlafiddfplhafaa
set_option linter.unusedVariables false
set_option linter.unusedSimpArgs false
open Go.RowKit
abbrev PK (x : PNode) : Value := I x.kind
abbrev PS (x : PNode) : Value := I x.sig
/-- A list of nodes, as a slice. -/
abbrev SlN := Sl2 PK PS
theorem two_any (k : Int) (w : World) : Calls Try.prog 80 #[I k] w fun e w' => e = .returned (.bool (two k)) ∧ w = w' := by
  go_enter Try.func80, Try.ntmps80
  go_wp2
  go_ret; exact ⟨ret_bool rfl, rfl⟩
theorem wait_any (k : Int) (w : World) : Calls Try.prog 27 #[I k] w fun e w' => e = .returned (.bool (waitK k)) ∧ w = w' := by
  go_enter Try.func27, Try.ntmps27
  go_wp2
  all_goals go_ret
  all_goals exact ⟨ret_bool (by rw [Bool.eq_iff_iff]; simp_all [waitK]), rfl⟩
theorem signs_any (k : Int) (w : World) : Calls Try.prog 41 #[I k] w fun e w' => e = .returned (I (signsM k)) ∧ w = w' := by
  generalize hM : signsM k = M
  unfold signsM at hM
  have HM := Lib.hid hM; clear hM
  go_enter Try.func41, Try.ntmps41
  go_wp2
  all_goals go_ret
  all_goals exact ⟨ret_int (by rw [← HM.out]; simp_all), rfl⟩
theorem one_any (A : Option Addr) (n c : Nat) (p : List PNode) (k : Int) (w : World) (h : SlN w A n p) (hn : n ≤ 65536) (hk : k ≤ 65536) :
    Calls Try.prog 42 #[.slice A n c, I k] w fun e w' => e = .returned (I (oneM p k)) ∧ w = w' := by
  suffices HH : ∀ (d : Nat) (k : Int), (k < 0 ∨ (n : Int) - k ≤ d) → k ≤ 65536 → Calls Try.prog 42 #[.slice A n c, I k] w fun e w' => e = .returned (I (oneM p k)) ∧ w = w' by
    exact HH n k (by omega) hk
  clear hk k
  have hbase : ∀ k : Int, (k < 0 ∨ (n : Int) ≤ k) → k ≤ 65536 → Calls Try.prog 42 #[.slice A n c, I k] w fun e w' => e = .returned (I (oneM p k)) ∧ w = w' := by
    intro k hk hk'
    by_cases h0 : k < 0
    · rw [oneM_neg p h0]
      go_enter Try.func42, Try.ntmps42
      go_wp2
      go_ret; exact ⟨rfl, rfl⟩
    · have h1 : (n : Int) ≤ k := by omega
      rw [oneM_big p (by rw [h.1]; exact h1)]
      go_enter Try.func42, Try.ntmps42
      go_wp2
      go_ret; exact ⟨rfl, rfl⟩
  intro d
  induction d with
  | zero => exact fun k hk hk' => hbase k (by omega) hk'
  | succ d ih =>
    intro k hk hk'
    by_cases hb : k < 0 ∨ (n : Int) ≤ k
    · exact hbase k hb hk'
    clear hbase
    obtain ⟨k, rfl⟩ := Int.eq_ofNat_of_zero_le (show 0 ≤ k by omega)
    have hkn : k < n := by omega
    obtain ⟨b, off, x, rfl, hc, hc', hd, hx⟩ := h.next hkn
    have IH := Lib.hid ih; clear ih
    cases ht : two x.kind with
    | false =>
      have HM := Lib.hid (oneM_leaf hx ht)
      have HT := Lib.hid ht
      have H := Lib.hid h
      clear h ht hx hd
      go_enter Try.func42, Try.ntmps42
      go_wp2_with fail
      refine (two_any _ _).mono ?_; rintro e w' ⟨rfl, rfl⟩; rw [HT.out]
      go_wp2
      go_ret; exact ⟨ret_int HM.out.symm, rfl⟩
    | true =>
      have HM := Lib.hid (oneM_two hx ht)
      have hr := oneM_range p ((k : Int) + 1)
      rw [h.1] at hr
      generalize hq : oneM p ((k : Int) + 1) = q at hr
      have HQ := Lib.hid hq
      have HT := Lib.hid ht
      have H := Lib.hid h
      clear h ht hx hd hq
      go_enter Try.func42, Try.ntmps42
      go_wp2_with fail
      refine (two_any _ _).mono ?_; rintro e w' ⟨rfl, rfl⟩; rw [HT.out]
      go_wp2_with fail
      refine (IH.out _ (by omega) (by omega)).mono ?_; rintro e w' ⟨rfl, rfl⟩; rw [HQ.out]
      go_wp2_with fail
      refine (IH.out _ (by omega) (by omega)).mono ?_; rintro e w' ⟨rfl, rfl⟩
      go_wp2
      go_ret; exact ⟨ret_int (by rw [HM.out, HQ.out]), rfl⟩
set_option maxHeartbeats 2000000 in
theorem progCheck_any (A : Option Addr) (n c : Nat) (p : List PNode) (w : World) (h : SlN w A n p) (hn : n ≤ maxLen) :
    Calls Try.prog 15 #[.slice A n c] w fun e w' => e = .returned (I (checkP p)) ∧ Ext w w' := by
  have hn' := hn; unfold maxLen at hn'
  generalize hR : checkP p = R
  unfold checkP at hR
  rw [h.1] at hR
  by_cases hbig : 14 < n
  · rw [if_pos hbig] at hR
    subst hR
    go_enter Try.func15, Try.ntmps15
    go_wp2
    go_ret; exact ⟨rfl, Ext.refl _⟩
  rw [if_neg hbig] at hR
  have H := Lib.hid h; clear h
  have HR := Lib.hid hR; clear hR
  go_enter Try.func15, Try.ntmps15
  go_wp2
  go_loopw [4, 12] (fun _ i wr => ∃ (k : Nat), k ≤ n ∧ i = .int .i64 k ∧ Ext w wr ∧ (p.drop k).any badKind = p.any badKind) (fun _ i _ => n - (intOf i).toNat)
  case atStart => exact ⟨0, Nat.zero_le _, rfl, Ext.refl _, rfl⟩
  case round =>
    obtain ⟨k, hk, rfl, hext, hM⟩ := hrel
    by_cases hlt : k < n
    · obtain ⟨b, off, x, rfl, hc0, hc0', hd, hx⟩ := H.out.next hlt
      have hc := hext.keeps _ _ hc0
      have hc' := hext.keeps _ _ hc0'
      rw [hd, List.any_cons] at hM
      have HM := Lib.hid hM; clear hM hd hx hc0 hc0'
      by_cases hb : badKind x = true
      · have hb2 : x.kind < 0 ∨ 8 < x.kind := by simpa [badKind] using hb
        have HB : Hid (R = 4) := by unfold Hid; rw [← HR.out, ← HM.out, hb]; rfl
        clear hb
        rcases hb2 with g | g
        · go_wp2
          go_ret; exact ⟨ret_int HB.out.symm, hext.alloc _⟩
        · have g' : ¬ x.kind < 0 := by omega
          go_wp2
          go_ret; exact ⟨ret_int HB.out.symm, hext.alloc _⟩
      · have hb2 : ¬ x.kind < 0 ∧ ¬ 8 < x.kind := by simpa [badKind] using hb
        have HB : Hid (badKind x = false) := by unfold Hid; simpa using hb
        obtain ⟨g1, g2⟩ := hb2
        clear hb
        go_wp2
        go_roundw
        case rel => exact ⟨k + 1, by omega, by go_num, hext.alloc _, by rw [← HM.out, HB.out]; simp⟩
        case measure => simp [intOf]; omega
    · rw [H.out.drop_end hlt] at hM
      have HK : Hid (p.any badKind = false) := by unfold Hid; rw [← hM]; rfl
      have HR2 : Hid ((if p.any badSig = true then 3 else if oneM p 0 ≠ (n : Int) then 1 else 0) = R) := by unfold Hid; rw [← HR.out, HK.out]; rfl
      clear hM HR
      go_wp2
      go_loopw [6, 27] (fun _ i wr => ∃ (k : Nat), k ≤ n ∧ i = .int .i64 k ∧ Ext w wr ∧ (p.drop k).any badSig = p.any badSig) (fun _ i _ => n - (intOf i).toNat)
      case atStart => exact ⟨0, Nat.zero_le _, rfl, hext, rfl⟩
      case round =>
        obtain ⟨k', hk', rfl, hext', hM⟩ := hrel
        by_cases hlt' : k' < n
        · obtain ⟨b, off, x, rfl, hc0, hc0', hd, hx⟩ := H.out.next hlt'
          have hc := hext'.keeps _ _ hc0
          have hc' := hext'.keeps _ _ hc0'
          rw [hd, List.any_cons] at hM
          have HM := Lib.hid hM; clear hM hd hx hc0 hc0'
          by_cases hb : badSig x = true
          · have hb2 : x.sig < 0 ∨ signsM x.kind ≤ x.sig := by simpa [badSig] using hb
            have HB : Hid (R = 3) := by unfold Hid; rw [← HR2.out, ← HM.out, hb]; rfl
            clear hb
            by_cases g : x.sig < 0
            · clear hb2
              go_wp2_with fail
              go_quiet (fail)
              go_wp2
              go_ret; exact ⟨ret_int HB.out.symm, (hext'.alloc _).drewN _⟩
            · have g' : signsM x.kind ≤ x.sig := by omega
              have gd : decide (x.sig < 0) = false := by simpa using g
              clear hb2
              go_wp2_with fail
              go_quiet ((go_at_call 41; refine Calls.quiet_of_same ((signs_any _ _).mono fun e w' h => ⟨h.1, h.2.symm⟩)))
              go_wp2
              go_ret; exact ⟨ret_int HB.out.symm, (hext'.alloc _).drewN _⟩
          · have hb2 : ¬ x.sig < 0 ∧ ¬ signsM x.kind ≤ x.sig := by simpa [badSig] using hb
            have HB : Hid (badSig x = false) := by unfold Hid; simpa using hb
            obtain ⟨g, g'⟩ := hb2
            have gd : decide (x.sig < 0) = false := by simpa using g
            clear hb
            go_wp2_with fail
            go_quiet ((go_at_call 41; refine Calls.quiet_of_same ((signs_any _ _).mono fun e w' h => ⟨h.1, h.2.symm⟩)))
            go_wp2
            go_roundw
            case rel => exact ⟨k' + 1, by omega, by go_num, (hext'.alloc _).drewN _, by rw [← HM.out, HB.out]; simp⟩
            case measure => simp [intOf]; omega
        · rw [H.out.drop_end hlt'] at hM
          have HK2 : Hid (p.any badSig = false) := by unfold Hid; rw [← hM]; rfl
          have HR3 : Hid ((if oneM p 0 ≠ (n : Int) then 1 else 0) = R) := by unfold Hid; rw [← HR2.out, HK2.out]; rfl
          clear hM HR2
          generalize hq : oneM p 0 = q
          have HQ := Lib.hid hq; clear hq
          have HS := Lib.hid (H.out.keep hext'.keeps)
          by_cases hqn : q = n
          · have g : (q != (n : Int)) = false := by simpa using hqn
            have HN := Lib.hid hqn; clear hqn
            go_wp2_with fail
            refine (one_any A n c p 0 _ HS.out (by omega) (by omega)).mono ?_; rintro e w' ⟨rfl, rfl⟩; rw [HQ.out]
            go_wp2
            go_ret; exact ⟨ret_int (by rw [← HR3.out, HQ.out, HN.out]; simp), hext'⟩
          · have g : (q != (n : Int)) = true := by simpa using hqn
            have HN := Lib.hid hqn; clear hqn
            go_wp2_with fail
            refine (one_any A n c p 0 _ HS.out (by omega) (by omega)).mono ?_; rintro e w' ⟨rfl, rfl⟩; rw [HQ.out]
            go_wp2
            go_ret; exact ⟨ret_int (by rw [← HR3.out, HQ.out, if_pos HN.out]), hext'⟩
end Go.Proofs.Ytlafiddfplhafaa
/- prog.Of, prog.Parts. -/
namespace Go.Proofs.Ytlafiddfplhafaa
set_option linter.unusedVariables false
set_option linter.unusedSimpArgs false
open Go.RowKit
theorem progOf_any (A : Option Addr) (n c : Nat) (p : List PNode) (k : Nat) (w : World) (h : SlN w A n p) (hn : n ≤ 60000) (hk : k < n) :
    Calls Try.prog 78 #[.slice A n c, I k] w fun e w' => e = .returned (Pr3 (I (ofP p k).1) (I (ofP p k).2.1) (I (ofP p k).2.2)) ∧ w = w' := by
  obtain ⟨b, off, x, rfl, hc, hc', hd, hx⟩ := h.next hk
  generalize hR : ofP p k = R
  unfold ofP at hR
  rw [hx] at hR
  have H := Lib.hid h
  have HR := Lib.hid hR
  clear h hx hd hR
  cases ht : two x.kind
  all_goals
    have HT := Lib.hid ht; clear ht
    go_enter Try.func78, Try.ntmps78
    go_wp2_with fail
    refine (two_any _ _).mono ?_; rintro e w' ⟨rfl, rfl⟩; rw [HT.out]
    go_wp2_with (go_at_call 42; with_reducible refine (one_any _ n c p _ w H.out (by omega) (by omega)).mono ?_; rintro e w' ⟨rfl, rfl⟩)
    go_ret3
    exact ⟨by rw [← HR.out]; simp only [HT.out]; rfl, rfl⟩
end Go.Proofs.Ytlafiddfplhafaa
/- More words on memory: rows made shorter; an append a little beyond what came in. No program in sight. -/
namespace Go.Proofs.Ytlafiddfplhafaa
set_option linter.unusedVariables false
set_option linter.unusedSimpArgs false
open Go.RowKit
theorem growslice_big {need old bytes : Nat} (h : old < need) (hb : need * bytes ≤ 140737489403904) (h8 : bytes ≤ 65536) : Builtin.nextslicecap need old * bytes ≤ 281474976710656 := by
  have h1 : Builtin.nextslicecap need old ≤ need + need / 4 + 1024 ∨ Builtin.nextslicecap need old ≤ 512 := by
    unfold Builtin.nextslicecap
    split
    · omega
    · split
      · omega
      · rw [growBy_four]
        repeat' split
        all_goals omega
  rcases h1 with h1 | h1
  · have h2 : Builtin.nextslicecap need old * bytes ≤ (need + need / 4 + 1024) * bytes := Nat.mul_le_mul_right _ h1
    have h3 : need / 4 * bytes ≤ need * bytes := Nat.mul_le_mul_right _ (Nat.div_le_self _ _)
    have h3' : need / 4 * bytes * 4 ≤ need * bytes := by rw [Nat.mul_right_comm]; exact Nat.mul_le_mul_right _ (Nat.div_mul_le_self _ _)
    have h4 : 1024 * bytes ≤ 67108864 := by omega
    rw [Nat.add_mul, Nat.add_mul] at h2
    omega
  · have h2 : Builtin.nextslicecap need old * bytes ≤ 512 * bytes := Nat.mul_le_mul_right _ h1
    omega
/-- append of all of a slice of one-cell elements onto a row of the call's own; the row may be a little longer than what came in. -/
theorem wpList_appendBig {P : Program} {ops : Array Oper} {rest : List Oper} {o : Oper} {a : Act} {Q : Exit → Act → World → Prop} {w : World} (hgd : o.guard = none) (s x : Operand) (t e : TypeId)
    (ho : o.op = .call { callee := .builtin .append, args := #[s, x], argTypes := #[t, t] })
    {z : Value} {bytes : Nat} (tab : (P.info? e).map (fun i => (i.zero, i.size, i.bytes)) = some (some z, 1, bytes)) (ht : P.underlying t = some (.slice e)) (hzs : z.cells.size = 1) (h8 : bytes ≤ 65536)
    (W0 : World) (hext : Ext W0 w) (v : Value) (n : Nat) (xs : List Value) (hs : a.eval s = v) (hown : w.ownsRow W0.heap.size e 1 v n xs)
    (A : Option Addr) (m c : Nat) (news : List Value) (hx : a.eval x = .slice A m c) (hr : Sl w A m news) (h1 : ∀ u ∈ news, u.oneCell' = true)
    (hbytes : (n + m) * bytes ≤ 140737489403904) (hm4 : n + m ≤ 9007199254740992)
    (h : ∀ v' w', w'.ownsRow W0.heap.size e 1 v' (n + m) (xs ++ news) → Ext W0 w' → w.grownBy w' v.ownBlock → (∀ k, v'.ownBlock = some k → v.ownBlock = some k ∨ w.heap.size ≤ k) → wpList P ops Q rest (a.put o.dst v') w') : wpList P ops Q (o :: rest) a w := by
  have h63 : n + m ≤ maxLen := by unfold maxLen; omega
  obtain ⟨i, hi, hz, hs1, hs2⟩ := info_parts tab
  have hb : ∀ k, v.ownBlock = some k → W0.heap.size ≤ k := fun k hk => (hown.lt k hk).1
  rcases Nat.eq_zero_or_pos m with hm0 | hmp
  · subst hm0
    have hn : news = [] := List.eq_nil_of_length_eq_zero hr.1
    subst hn
    refine wpList_plain hgd fun K hK => ?_
    have hrun : (Builtin.append_ #[t, t] o.type #[v, .slice A 0 c]).run P w = .ok v w := by
      rcases hown.2 with ⟨rfl, rfl⟩ | ⟨g, cap, cur, rfl, _, _, hnc, _⟩
      · simp [Builtin.append_, run_underlying ht, sizeOf, typeInfo, hi, Builtin.lenOf, Builtin.firstCells, loadCells, loadCellsFrom]
        try (cases A <;> simp [Builtin.firstCells, loadCells, loadCellsFrom])
      · simp [Builtin.append_, run_underlying ht, sizeOf, typeInfo, hi, Builtin.lenOf, hnc]
        cases A <;> simp [Builtin.firstCells, loadCells, loadCellsFrom, storeCells]
    unfold Oper.wp execOp
    simp only [ho, resolve, invoke, builtin, Sem.run_bind, Sem.run_pure, Result.andThen_ok, List.map_toArray, List.map_cons, List.map_nil, hs, hx, hrun]
    exact hK _ _ (h v w (by simpa using hown) hext (World.grownBy.refl w _) (fun k hk => .inl hk))
  obtain ⟨b, off, rfl⟩ : ∃ b off, A = some ⟨b, off, none⟩ := by
    have hl : 0 < news.length := by rw [hr.1]; exact hmp
    obtain ⟨b, off, e2, _⟩ := hr.2 0 _ (List.getElem?_eq_getElem hl)
    exact ⟨b, off, e2⟩
  have hcells : ∀ j u, news[j]? = some u → w.cell? ((⟨b, off, none⟩ : Addr).add j) = some u := by
    intro j u hu
    obtain ⟨b', off', e2, hc⟩ := hr.2 j u hu
    injection e2 with e2; injection e2 with e2 e3
    subst e2; subst e3
    rw [add_plain']; exact hc
  have hnl : news.length = m * i.size := by rw [hs1, hr.1]; omega
  have hlen : (xs ++ news).length = (n + m) * 1 := by have := hown.1; have := hr.1; simp; omega
  have grown : ∀ (old : Nat), old < n + m → ∀ (row : Option Nat),
      (w.drew.alloc (.cells (xs.toArray ++ news.toArray ++ Builtin.zeroCells z.cells (grownCap w (n + m) old e - (n + m))) e)).ownsRow W0.heap.size e 1
        (.slice (some ⟨w.heap.size, 0, none⟩) (n + m) (grownCap w (n + m) old e)) (n + m) (xs ++ news) ∧
      w.grownBy (w.drew.alloc (.cells (xs.toArray ++ news.toArray ++ Builtin.zeroCells z.cells (grownCap w (n + m) old e - (n + m))) e)) row := by
    intro old ho' row
    have hge := grownCap_ge w (n + m) old e
    refine ⟨⟨hlen, .inr ⟨w.heap.size, _, _, rfl, hext.size, heap_alloc_new w.drew _, hge, grownCap_le_maxLen w (n + m) old e h63, ?_, ?_⟩⟩, ⟨rfl, rfl, rfl, by simp, fun k hk _ => Below.heap_alloc w.drew _ k hk⟩⟩
    · simp only [Array.size_append, List.size_toArray, size_zeroCells, hzs, hown.1, hr.1, Nat.mul_one]
      omega
    · simp only [Array.toList_append, List.append_assoc]
      rw [← List.append_assoc, ← hlen]
      exact List.take_left
  have hres : ∃ v' w', (Builtin.append_ #[t, t] o.type #[v, .slice (some ⟨b, off, none⟩) m c]).run P w = .ok v' w' ∧ w'.ownsRow W0.heap.size e 1 v' (n + m) (xs ++ news) ∧ w.grownBy w' v.ownBlock ∧ (∀ k, v'.ownBlock = some k → v.ownBlock = some k ∨ w.heap.size ≤ k) := by
    rcases hown.2 with ⟨rfl, rfl⟩ | ⟨g, cap, cur, rfl, hbg, hg, hnc, hcm, hcs, htake⟩
    · have hx0 : xs = [] := List.eq_nil_of_length_eq_zero (by simpa using hown.1)
      subst hx0
      have hr0 := run_append_nil (P := P) w t o.type e i z ht hi hz ⟨b, off, none⟩ m c news hnl hcells hmp (by omega) (by rw [hs2]; simp only [Nat.zero_add] at hbytes; omega)
      have hgr := grown 0 (by omega) (Value.ownBlock (.slice none 0 0))
      simp only [Nat.zero_add, List.nil_append, Array.empty_append] at hgr ⊢
      exact ⟨_, _, hr0, hgr.1, hgr.2, fun k hk => .inr (by simp [Value.ownBlock] at hk; omega)⟩
    · by_cases hroom : n + m ≤ cap
      · have hfit : n * i.size + news.length ≤ cur.size := by rw [hs1, hr.1, hcs]; omega
        have hr0 := run_append_room (P := P) w t o.type e i ht hi g n cap cur hg ⟨b, off, none⟩ m c news hnl hcells h1 hroom hfit
        refine ⟨_, _, hr0, ⟨hlen, .inr ⟨g, cap, _, rfl, hbg, setRow_heap w g cur _ e _ hg, hroom, hcm, ?_, ?_⟩⟩, ⟨rfl, rfl, rfl, by simp, fun k _ hk => setRow_other w g k _ (fun e => hk (by simp [Value.ownBlock, e]))⟩, fun k hk => .inl hk⟩
        · rw [hs1] at *
          simp only [List.size_toArray, List.length_append, List.length_take, List.length_drop, Array.length_toList]
          omega
        · rw [hs1, htake, ← hlen]
          exact List.take_left
      · have holds : ∀ j u, xs[j]? = some u → w.cell? ((⟨g, 0, none⟩ : Addr).add j) = some u := hown.cells (g := g) rfl
        have hr0 := run_append_grow (P := P) w t o.type e i z ht hi hz ⟨g, 0, none⟩ n cap xs (by rw [hs1]; exact hown.1) holds ⟨b, off, none⟩ m c news hnl hcells (by omega) (by omega) (by rw [hs2]; exact growslice_big (by omega) hbytes h8)
        have hgr := grown cap (by omega) (Value.ownBlock (.slice (some ⟨g, 0, none⟩) n cap))
        exact ⟨_, _, hr0, hgr.1, hgr.2, fun k hk => .inr (by simp [Value.ownBlock] at hk; omega)⟩
  obtain ⟨v', w', hrun, k1, k2, k3⟩ := hres
  refine wpList_plain hgd fun K hK => ?_
  unfold Oper.wp execOp
  simp only [ho, resolve, invoke, builtin, Sem.run_bind, Sem.run_pure, Result.andThen_ok, List.map_toArray, List.map_cons, List.map_nil, hs, hx, hrun]
  exact hK _ _ (h v' w' k1 (Below.grown hext k2 hext.size hb) k2 k3)
/-- One place of an own row is written; another own row stays. -/
theorem own_other {w : World} {base : Nat} {e : TypeId} {size n : Nat} {v : Value} {xs : List Value} (h : w.ownsRow base e size v n xs) {g j : Nat} {u : Value} (hg : v.ownBlock ≠ some g) : (w.setCell ⟨g, j, none⟩ u).ownsRow base e size v n xs := by
  refine h.kept (row := some g) ⟨rfl, rfl, rfl, by simp, fun k _ hk => heap_setCell_other w ⟨g, j, none⟩ k u (fun e => hk (by simp [e]))⟩ (.inr hg)
end Go.Proofs.Ytlafiddfplhafaa
/- A row of one-cell elements of the call's own that may begin within its block: a queue. No program in sight. -/
namespace Go.Proofs.Ytlafiddfplhafaa
set_option linter.unusedVariables false
set_option linter.unusedSimpArgs false
open Go.RowKit
theorem frozen_keep {w w' w2 : World} {p : Addr} {u : Value} {row : Option Nat} (hg : w'.grownBy w2 row) (hx : Ext w w') (hc : w.cell? p = some u) (hne : some p.block ≠ row) : w2.frozen? p = w.frozen? p :=
  (World.frozen?_of_block (hg.block p.block (Nat.lt_of_lt_of_le (lt_of_cell hc) hx.size) hne)).trans (World.frozen?_of_block (hx.block p.block (lt_of_cell hc)))
/-- All that was there is as it was, but for two blocks; new memory may have come. -/
structure Aside (g1 g2 : Nat) (w w' : World) : Prop where
  os : w'.os = w.os
  tape : w'.tape = w.tape
  output : w'.output = w.output
  size : w.heap.size ≤ w'.heap.size
  block : ∀ k, k < w.heap.size → k ≠ g1 → k ≠ g2 → w'.heap[k]? = w.heap[k]?
section
variable {g1 g2 : Nat} {a b c : World}
theorem Aside.refl (g1 g2 : Nat) (w : World) : Aside g1 g2 w w := ⟨rfl, rfl, rfl, Nat.le_refl _, fun _ _ _ _ => rfl⟩
theorem Aside.more (h : Aside g1 g2 a b) (k : Ext b c) : Aside g1 g2 a c :=
  ⟨k.os.trans h.os, k.tape.trans h.tape, k.output.trans h.output, Nat.le_trans h.size k.size, fun i hi h1 h2 => (k.block i (Nat.lt_of_lt_of_le hi h.size)).trans (h.block i hi h1 h2)⟩
theorem Aside.set1 (h : Aside g1 g2 a b) (j : Nat) (v : Value) : Aside g1 g2 a (b.setCell ⟨g1, j, none⟩ v) :=
  ⟨h.os, h.tape, h.output, by simpa using h.size, fun i hi h1 h2 => by rw [heap_setCell_other b ⟨g1, j, none⟩ i v h1]; exact h.block i hi h1 h2⟩
theorem Aside.grown {row : Option Nat} (h : Aside g1 g2 a b) (hg : b.grownBy c row) (hr : ∀ k, row = some k → k = g2 ∨ a.heap.size ≤ k) : Aside g1 g2 a c :=
  ⟨hg.os.trans h.os, hg.tape.trans h.tape, hg.output.trans h.output, Nat.le_trans h.size hg.size, fun i hi h1 h2 => (hg.block i (Nat.lt_of_lt_of_le hi h.size) (fun e => by rcases hr i e.symm with q | q <;> omega)).trans (h.block i hi h1 h2)⟩
theorem Aside.cell (h : Aside g1 g2 a b) {p : Addr} {u : Value} (hc : a.cell? p = some u) (h1 : p.block ≠ g1) (h2 : p.block ≠ g2) : b.cell? p = some u :=
  (World.cell?_of_block (h.block p.block (lt_of_cell hc) h1 h2)).trans hc
theorem Aside.ext {w0 : World} (h : Aside g1 g2 a b) (e : Ext w0 a) (h1 : w0.heap.size ≤ g1) (h2 : w0.heap.size ≤ g2) : Ext w0 b :=
  ⟨h.os.trans e.os, h.tape.trans e.tape, h.output.trans e.output, Nat.le_trans e.size h.size, fun i hi => (h.block i (Nat.lt_of_lt_of_le hi e.size) (by omega) (by omega)).trans (e.block i hi)⟩
end
theorem Sl.aside {g1 g2 : Nat} {a b : World} {A : Option Addr} {n : Nat} {cs : List Value} (h : Sl a A n cs) (k : Aside g1 g2 a b) (hA : ∀ p, A = some p → p.block ≠ g1 ∧ p.block ≠ g2) : Sl b A n cs :=
  ⟨h.1, fun j u hu => let ⟨q, o, e, hc⟩ := h.2 j u hu; ⟨q, o, e, k.cell hc (hA _ e).1 (hA _ e).2⟩⟩
theorem set_same {α : Type} {l : List α} {j : Nat} {x : α} (h : l[j]? = some x) : l.set j x = l := by
  refine List.ext_getElem? fun i => ?_
  rw [List.getElem?_set]
  by_cases e : j = i
  · subst e; rw [if_pos rfl, if_pos (List.getElem?_eq_some_iff.1 h).1, h]
  · rw [if_neg e]
theorem grownBy_set (w : World) (g j : Nat) (v : Value) : w.grownBy (w.setCell ⟨g, j, none⟩ v) (some g) :=
  ⟨rfl, rfl, rfl, by simp, fun i _ hi => heap_setCell_other w ⟨g, j, none⟩ i v (fun e => hi (by simp [e]))⟩
theorem pick_block {s : Value} {gv lo hi B : Nat} (h1 : s.ownBlock ≠ some gv) (h2 : ∀ b, s.ownBlock = some b → B ≤ b ∧ b < lo) (hgv : gv < hi) (hB : B ≤ hi) :
    ∃ b0, (∀ b, s.ownBlock = some b → b = b0) ∧ b0 ≠ gv ∧ B ≤ b0 ∧ ∀ j, lo ≤ j → j < hi → j ≠ b0 := by
  cases hb : s.ownBlock with
  | none => exact ⟨hi, fun b e => by simp at e, by omega, hB, fun j _ h => by omega⟩
  | some b =>
    have := h2 b hb
    exact ⟨b, fun b' e => (Option.some.inj e).symm, fun e => h1 (by rw [hb, e]), this.1, fun j h _ => by omega⟩
def OwnQ (w : World) (base : Nat) (e : TypeId) (v : Value) (xs : List Value) : Prop :=
  (v = .slice none 0 0 ∧ xs = []) ∨ ∃ g off cap cur, v = .slice (some ⟨g, off, none⟩) xs.length cap ∧ base ≤ g ∧ w.heap[g]? = some (.cells cur e (0, 0)) ∧ xs.length ≤ cap ∧ cap ≤ maxLen ∧ off + cap ≤ cur.size ∧ (cur.toList.drop off).take xs.length = xs
section
variable {w w' : World} {base : Nat} {e : TypeId} {v : Value} {n : Nat} {xs : List Value}
theorem OwnQ.of_own (h : w.ownsRow base e 1 v n xs) : OwnQ w base e v xs := by
  rcases h with ⟨hl, ⟨rfl, rfl⟩ | ⟨g, cap, cur, rfl, hb, hg, hnc, hm, hcs, ht⟩⟩
  · exact .inl ⟨rfl, List.eq_nil_of_length_eq_zero (by simpa using hl)⟩
  · have hn : xs.length = n := by omega
    refine .inr ⟨g, 0, cap, cur, by rw [hn], hb, hg, by omega, hm, by omega, ?_⟩
    rw [List.drop_zero, hn]; simpa using ht
theorem OwnQ.lt (h : OwnQ w base e v xs) : ∀ k, v.ownBlock = some k → base ≤ k ∧ k < w.heap.size := by
  intro k hk
  rcases h with ⟨rfl, _⟩ | ⟨g, off, cap, cur, rfl, hb, hg, _⟩
  · simp [Value.ownBlock] at hk
  · simp [Value.ownBlock] at hk
    subst hk
    exact ⟨hb, (Array.getElem?_eq_some_iff.1 hg).1⟩
theorem OwnQ.kept {row : Option Nat} (h : OwnQ w base e v xs) (hg : w.grownBy w' row) (hne : v.ownBlock = none ∨ v.ownBlock ≠ row) : OwnQ w' base e v xs := by
  rcases h with h | ⟨g, off, cap, cur, rfl, hb, hgg, rest⟩
  · exact .inl h
  · refine .inr ⟨g, off, cap, cur, rfl, hb, ?_, rest⟩
    rw [hg.block g (Array.getElem?_eq_some_iff.1 hgg).1 (by simpa [Value.ownBlock] using hne)]
    exact hgg
theorem OwnQ.ext (h : OwnQ w base e v xs) (hx : Ext w w') : OwnQ w' base e v xs := by
  rcases h with h | ⟨g, off, cap, cur, rfl, hb, hgg, rest⟩
  · exact .inl h
  · exact .inr ⟨g, off, cap, cur, rfl, hb, (hx.block g (Array.getElem?_eq_some_iff.1 hgg).1).trans hgg, rest⟩
theorem OwnQ.cell {g off cap : Nat} (h : OwnQ w base e (.slice (some ⟨g, off, none⟩) n cap) xs) : ∀ j u, xs[j]? = some u → w.cell? ⟨g, off + j, none⟩ = some u := by
  intro j u hu
  rcases h with ⟨h0, _⟩ | ⟨g', off', cap', cur, hv, _, hgg, _, _, _, ht⟩
  · cases h0
  · injection hv with h1 _ _
    injection h1 with h1; injection h1 with h1 h2
    subst h1; subst h2
    rw [cell_of_row w g (off + j) cur e (0, 0) hgg]
    rw [← ht, List.getElem?_take] at hu
    split at hu
    · rw [List.getElem?_drop] at hu; simpa using hu
    · cases hu
theorem OwnQ.slice (h : OwnQ w base e v xs) : ∃ A c, v = .slice A xs.length c ∧ xs.length ≤ c ∧ c ≤ maxLen ∧ Sl w A xs.length xs := by
  have h' := h
  rcases h with ⟨rfl, rfl⟩ | ⟨g, off, cap, cur, rfl, _, hgg, hnc, hm, _, _⟩
  · exact ⟨none, 0, rfl, Nat.le_refl _, Nat.zero_le _, Sl.nil _ _⟩
  · exact ⟨_, _, rfl, hnc, hm, rfl, fun k u hu => ⟨g, off, rfl, h'.cell k u hu⟩⟩
/-- The first is taken off. -/
theorem OwnQ.tail {x : Value} (h : OwnQ w base e v (x :: xs)) : ∃ g off c, v = .slice (some ⟨g, off, none⟩) (xs.length + 1) c ∧ xs.length + 1 ≤ c ∧ c ≤ maxLen ∧ w.cell? ⟨g, off, none⟩ = some x ∧
    OwnQ w base e (.slice (some (if c = 1 then ⟨g, off, none⟩ else ⟨g, off + 1, none⟩)) xs.length (c - 1)) xs := by
  have h' := h
  rcases h with ⟨_, h0⟩ | ⟨g, off, cap, cur, rfl, hb, hgg, hnc, hm, hcs, ht⟩
  · cases h0
  · simp only [List.length_cons] at hnc ht ⊢
    refine ⟨g, off, cap, rfl, hnc, hm, by simpa using h'.cell 0 x (by simp), ?_⟩
    by_cases h1 : cap = 1
    · rw [if_pos h1]
      have : xs = [] := List.eq_nil_of_length_eq_zero (by omega)
      subst this
      exact .inr ⟨g, off, cap - 1, cur, rfl, hb, hgg, by simp, by omega, by omega, by simp⟩
    · rw [if_neg h1]
      refine .inr ⟨g, off + 1, cap - 1, cur, rfl, hb, hgg, by omega, by omega, by omega, ?_⟩
      have e1 : cur.toList.drop (off + 1) = (cur.toList.drop off).tail := by rw [List.tail_drop]
      have e2 : ∀ (l : List Value) (n : Nat), l.tail.take n = (l.take (n + 1)).tail := fun l n => by cases l <;> simp
      rw [e1, e2, ht]; rfl
end
/-- append onto such a row. -/
theorem OwnQ.append {P : Program} {w : World} (t ty e : TypeId) {z : Value} {bytes : Nat} (tab : (P.info? e).map (fun i => (i.zero, i.size, i.bytes)) = some (some z, 1, bytes)) (ht : P.underlying t = some (.slice e)) (hzs : z.cells.size = 1) (h8 : bytes ≤ 65536)
    {base : Nat} (hbase : base ≤ w.heap.size) {v : Value} {xs : List Value} (hown : OwnQ w base e v xs) (A : Option Addr) (m c : Nat) (news : List Value) (hr : Sl w A m news) (h1 : ∀ u ∈ news, u.oneCell' = true)
    (hbytes : (xs.length + m) * bytes ≤ 140737489403904) (hm4 : xs.length + m ≤ 9007199254740992) :
    ∃ v' w', (Builtin.append_ #[t, t] ty #[v, .slice A m c]).run P w = .ok v' w' ∧ OwnQ w' base e v' (xs ++ news) ∧ w.grownBy w' v.ownBlock ∧ ∀ k, v'.ownBlock = some k → v.ownBlock = some k ∨ w.heap.size ≤ k := by
  have h63 : xs.length + m ≤ maxLen := by unfold maxLen; omega
  obtain ⟨i, hi, hz, hs1, hs2⟩ := info_parts tab
  rcases Nat.eq_zero_or_pos m with hm0 | hmp
  · subst hm0
    have hn : news = [] := List.eq_nil_of_length_eq_zero hr.1
    subst hn
    refine ⟨v, w, ?_, by simpa using hown, World.grownBy.refl w _, fun k hk => .inl hk⟩
    rcases hown with ⟨rfl, rfl⟩ | ⟨g, off, cap, cur, rfl, _, _, hnc, _⟩
    · simp [Builtin.append_, run_underlying ht, sizeOf, typeInfo, hi, Builtin.lenOf, Builtin.firstCells, loadCells, loadCellsFrom]
      try (cases A <;> simp [Builtin.firstCells, loadCells, loadCellsFrom])
    · simp [Builtin.append_, run_underlying ht, sizeOf, typeInfo, hi, Builtin.lenOf, hnc]
      cases A <;> simp [Builtin.firstCells, loadCells, loadCellsFrom, storeCells]
  obtain ⟨b, off0, rfl⟩ : ∃ b off, A = some ⟨b, off, none⟩ := by
    have hl : 0 < news.length := by rw [hr.1]; exact hmp
    obtain ⟨b, off, e2, _⟩ := hr.2 0 _ (List.getElem?_eq_getElem hl)
    exact ⟨b, off, e2⟩
  have hcells : ∀ j u, news[j]? = some u → w.cell? ((⟨b, off0, none⟩ : Addr).add j) = some u := by
    intro j u hu
    obtain ⟨b', off', e2, hc⟩ := hr.2 j u hu
    injection e2 with e2; injection e2 with e2 e3
    subst e2; subst e3
    rw [add_plain']; exact hc
  have hnl : news.length = m * i.size := by rw [hs1, hr.1]; omega
  have hlen : (xs ++ news).length = xs.length + m := by rw [List.length_append, hr.1]
  have grown : ∀ (old : Nat) (row : Option Nat),
      OwnQ (w.drew.alloc (.cells (xs.toArray ++ news.toArray ++ Builtin.zeroCells z.cells (grownCap w (xs.length + m) old e - (xs.length + m))) e)) base e
        (.slice (some ⟨w.heap.size, 0, none⟩) (xs.length + m) (grownCap w (xs.length + m) old e)) (xs ++ news) ∧
      w.grownBy (w.drew.alloc (.cells (xs.toArray ++ news.toArray ++ Builtin.zeroCells z.cells (grownCap w (xs.length + m) old e - (xs.length + m))) e)) row := by
    intro old row
    have hge := grownCap_ge w (xs.length + m) old e
    refine ⟨.inr ⟨w.heap.size, 0, _, _, by rw [hlen], hbase, heap_alloc_new w.drew _, by rw [hlen]; exact hge, grownCap_le_maxLen w _ old e h63, ?_, ?_⟩, ⟨rfl, rfl, rfl, by simp, fun k hk _ => Below.heap_alloc w.drew _ k hk⟩⟩
    · simp only [Array.size_append, List.size_toArray, size_zeroCells, hzs, hr.1, Nat.mul_one]
      omega
    · simp only [Array.toList_append, List.append_assoc, List.drop_zero]
      rw [← List.append_assoc]
      exact List.take_left
  rcases hown with ⟨rfl, rfl⟩ | ⟨g, off, cap, cur, rfl, hbg, hg, hnc, hcm, hcs, htake⟩
  · have hr0 := run_append_nil (P := P) w t ty e i z ht hi hz ⟨b, off0, none⟩ m c news hnl hcells hmp (by omega) (by rw [hs2]; simp only [List.length_nil, Nat.zero_add] at hbytes; omega)
    have hgr := grown 0 (Value.ownBlock (.slice none 0 0))
    simp only [List.length_nil, Nat.zero_add, List.nil_append, Array.empty_append] at hgr ⊢
    exact ⟨_, _, hr0, hgr.1, hgr.2, fun k hk => .inr (by simp [Value.ownBlock] at hk; omega)⟩
  · by_cases hroom : xs.length + m ≤ cap
    · have hf := run_firstCells_some (P := P) w i.size m ⟨b, off0, none⟩ m c news hnl hcells
      have hst := run_storeCells_at P g (off + xs.length) e news 0 cur w hg (by rw [hr.1]; omega) h1
      simp only [Nat.add_zero] at hst
      have hrun : (Builtin.append_ #[t, t] ty #[.slice (some ⟨g, off, none⟩) xs.length cap, .slice (some ⟨b, off0, none⟩) m c]).run P w =
          .ok (.slice (some ⟨g, off, none⟩) (xs.length + m) cap) (w.setRow g (cur.toList.take (off + xs.length) ++ news ++ cur.toList.drop (off + xs.length + news.length)).toArray) := by
        rw [hs1] at hf
        simp [Builtin.append_, run_underlying ht, sizeOf, typeInfo, hi, hs1, Builtin.lenOf, hroom, hf, add_plain', hst]
      refine ⟨_, _, hrun, .inr ⟨g, off, cap, _, by rw [hlen], hbg, setRow_heap w g cur _ e _ hg, by rw [hlen]; exact hroom, hcm, ?_, ?_⟩, ⟨rfl, rfl, rfl, by simp, fun k _ hk => setRow_other w g k _ (fun e => hk (by simp [Value.ownBlock, e]))⟩, fun k hk => .inl hk⟩
      · have := hr.1
        simp only [List.size_toArray, List.length_append, List.length_take, List.length_drop, Array.length_toList]
        omega
      · have h2 : off ≤ (cur.toList.take (off + xs.length)).length := by simp; omega
        have h3 : (cur.toList.take (off + xs.length)).drop off = xs := by rw [List.drop_take, Nat.add_sub_cancel_left]; exact htake
        simp only [List.append_assoc]
        rw [List.drop_append_of_le_length h2, h3, ← List.append_assoc]
        exact List.take_left
    · have holds : ∀ j u, xs[j]? = some u → w.cell? ((⟨g, off, none⟩ : Addr).add j) = some u := fun j u hu => by
        rw [add_plain']
        exact OwnQ.cell (.inr ⟨g, off, cap, cur, rfl, hbg, hg, hnc, hcm, hcs, htake⟩ : OwnQ w base e (.slice (some ⟨g, off, none⟩) xs.length cap) xs) j u hu
      have hr0 := run_append_grow (P := P) w t ty e i z ht hi hz ⟨g, off, none⟩ xs.length cap xs (by rw [hs1]; omega) holds ⟨b, off0, none⟩ m c news hnl hcells (by omega) (by omega) (by rw [hs2]; exact growslice_big (by omega) hbytes h8)
      have hgr := grown cap (Value.ownBlock (.slice (some ⟨g, off, none⟩) xs.length cap))
      exact ⟨_, _, hr0, hgr.1, hgr.2, fun k hk => .inr (by simp [Value.ownBlock] at hk; omega)⟩
/-- The same in a walk. -/
theorem wpList_appendQ {P : Program} {ops : Array Oper} {rest : List Oper} {o : Oper} {a : Act} {Q : Exit → Act → World → Prop} {w : World} (hgd : o.guard = none) (s x : Operand) (t e : TypeId)
    (ho : o.op = .call { callee := .builtin .append, args := #[s, x], argTypes := #[t, t] })
    {z : Value} {bytes : Nat} (tab : (P.info? e).map (fun i => (i.zero, i.size, i.bytes)) = some (some z, 1, bytes)) (ht : P.underlying t = some (.slice e)) (hzs : z.cells.size = 1) (h8 : bytes ≤ 65536)
    (base : Nat) (hbase : base ≤ w.heap.size) (v : Value) (xs : List Value) (hs : a.eval s = v) (hown : OwnQ w base e v xs)
    (A : Option Addr) (m c : Nat) (news : List Value) (hx : a.eval x = .slice A m c) (hr : Sl w A m news) (h1 : ∀ u ∈ news, u.oneCell' = true)
    (hbytes : (xs.length + m) * bytes ≤ 140737489403904) (hm4 : xs.length + m ≤ 9007199254740992)
    (h : ∀ v' w', OwnQ w' base e v' (xs ++ news) → w.grownBy w' v.ownBlock → (∀ k, v'.ownBlock = some k → v.ownBlock = some k ∨ w.heap.size ≤ k) → wpList P ops Q rest (a.put o.dst v') w') : wpList P ops Q (o :: rest) a w := by
  obtain ⟨v', w', hrun, k1, k2, k3⟩ := OwnQ.append t o.type e tab ht hzs h8 hbase hown A m c news hr h1 hbytes hm4
  refine wpList_plain hgd fun K hK => ?_
  unfold Oper.wp execOp
  simp only [ho, resolve, invoke, builtin, Sem.run_bind, Sem.run_pure, Result.andThen_ok, List.map_toArray, List.map_cons, List.map_nil, hs, hx, hrun]
  exact hK _ _ (h v' w' k1 k2 k3)
end Go.Proofs.Ytlafiddfplhafaa
/- Nets, in plain Lean: what each function of package net computes. -/
namespace Go.Proofs.Ytlafiddfplhafaa
set_option linter.unusedVariables false
set_option linter.unusedSimpArgs false
structure GateM where
  kind : Int
  num : Int
  args : List Int
  deriving DecidableEq
structure StoreM where
  fst : Bool
  next : Int
  deriving DecidableEq
structure NetM where
  ins : Int
  gates : List GateM
  regs : List StoreM
  outs : List Int
  deriving DecidableEq
def formM (N : NetM) (g : GateM) : Bool :=
  let most : Int := if g.kind = 2 then N.ins - 1 else if g.kind = 3 then (N.regs.length : Int) - 1 else 0
  let args : Bool := if g.kind = 4 ∨ g.kind = 5 then true else if g.kind = 6 then decide (g.args.length = 1) else decide (g.args.length = 0)
  args && decide (0 ≤ g.num) && decide (g.num ≤ most)
def manyA (g : GateM) : Bool := decide (16 < g.args.length)
def badPlace (n : Nat) (k : Int) : Bool := decide (k < 0) || decide ((n : Int) ≤ k)
def badGK (g : GateM) : Bool := decide (g.kind < 0) || decide (6 < g.kind)
def tooMany (N : NetM) : Bool := decide (3 < N.ins) || decide (200 < N.gates.length) || decide (20 < N.regs.length) || decide (3 < N.outs.length)
def namedM (N : NetM) : List Int := N.outs ++ N.regs.map (·.next) ++ N.gates.flatMap (·.args)
/-- Check: the first error. -/
def checkN (N : NetM) : Int :=
  if tooMany N then 2 else if N.gates.any manyA then 2 else if N.ins < 0 then 3 else if (namedM N).any (badPlace N.gates.length) then 3
  else if N.gates.any badGK then 4 else if N.gates.all (formM N) then 0 else 1
def firstM (N : NetM) : List Int := N.regs.map fun r => if r.fst then 1 else 0
def nextsM (N : NetM) : List Int := N.regs.map (·.next)
end Go.Proofs.Ytlafiddfplhafaa
/- Who is needed, in plain Lean: the work list and the rounds tell the same. No program in sight. -/
namespace Go.Proofs.Ytlafiddfplhafaa
set_option linter.unusedVariables false
set_option linter.unusedSimpArgs false
def argsI (gs : List GateM) (k : Int) : List Int := (gs[k.toNat]?.map (·.args)).getD []
def onI (o : List Bool) (k : Int) : Bool := o[k.toNat]?.getD false
def markM (o : List Bool) (l : List Int) : List Bool := l.foldl (fun o a => o.set a.toNat true) o
def roundFrom : List GateM → Nat → List Bool → List Bool
  | [], _, o => o
  | g :: l, k, o => roundFrom l (k + 1) (if onI o k then markM o g.args else o)
def roundM (gs : List GateM) (o : List Bool) : List Bool := roundFrom gs 0 o
def roundsM (gs : List GateM) : Nat → List Bool → List Bool
  | 0, o => o
  | n + 1, o => roundsM gs n (roundM gs o)
def needsM (gs : List GateM) (l : List Int) : List Bool := roundsM gs gs.length (markM (List.replicate gs.length false) l)
def inR (n : Nat) (l : List Int) : Prop := ∀ k ∈ l, 0 ≤ k ∧ k < n
def okArgs (gs : List GateM) : Prop := ∀ g ∈ gs, inR gs.length g.args
inductive NReach (gs : List GateM) (l : List Int) : Int → Prop
  | base {k : Int} : k ∈ l → NReach gs l k
  | step {k a : Int} : NReach gs l k → a ∈ argsI gs k → NReach gs l a
theorem argsI_mem {gs : List GateM} {k a : Int} (h : a ∈ argsI gs k) : ∃ g, gs[k.toNat]? = some g ∧ a ∈ g.args := by
  unfold argsI at h
  cases e : gs[k.toNat]? with
  | none => simp [e] at h
  | some g => exact ⟨g, rfl, by simpa [e] using h⟩
theorem argsI_range {gs : List GateM} (h : okArgs gs) {k a : Int} (ha : a ∈ argsI gs k) : 0 ≤ a ∧ a < gs.length := by
  obtain ⟨g, hg, hm⟩ := argsI_mem ha
  exact h g (List.mem_of_getElem? hg) a hm
theorem reach_range {gs : List GateM} (h : okArgs gs) {l : List Int} (hl : inR gs.length l) {k : Int} (r : NReach gs l k) : 0 ≤ k ∧ k < gs.length := by
  cases r with
  | base hk => exact hl _ hk
  | step _ ha => exact argsI_range h ha
/-! lists of flags -/
theorem onI_set (o : List Bool) (a k : Int) (h0 : 0 ≤ a) (h1 : a < o.length) (k0 : 0 ≤ k) : onI (o.set a.toNat true) k = (onI o k || decide (k = a)) := by
  unfold onI
  rw [List.getElem?_set]
  by_cases e : k = a
  · subst e; rw [if_pos rfl, if_pos (by omega)]; simp
  · have : ¬ a.toNat = k.toNat := by omega
    simp [this, e]
theorem markM_length (l : List Int) : ∀ o : List Bool, (markM o l).length = o.length := by
  induction l with
  | nil => intro o; rfl
  | cons a l ih => intro o; simp only [markM, List.foldl_cons] at *; rw [ih]; simp
theorem onI_mark (l : List Int) (k : Int) (k0 : 0 ≤ k) : ∀ o : List Bool, inR o.length l → (onI (markM o l) k = true ↔ onI o k = true ∨ k ∈ l) := by
  induction l with
  | nil => intro o _; simp [markM]
  | cons a l ih =>
    intro o h
    have ha := h a (by simp)
    have h2 := ih (o.set a.toNat true) (fun x hx => by simpa using h x (by simp [hx]))
    simp only [markM, List.foldl_cons] at h2 ⊢
    rw [h2, onI_set o a k ha.1 ha.2 k0]
    simp only [Bool.or_eq_true, decide_eq_true_eq, List.mem_cons]
    constructor
    · rintro ((h | h) | h)
      · exact .inl h
      · exact .inr (.inl h)
      · exact .inr (.inr h)
    · rintro (h | h | h)
      · exact .inl (.inl h)
      · exact .inl (.inr h)
      · exact .inr h
theorem flags_ext {a b : List Bool} (hl : a.length = b.length) (h : ∀ k : Nat, k < a.length → onI a k = onI b k) : a = b := by
  apply List.ext_getElem hl
  intro i h1 h2
  have := h i h1
  simpa [onI, List.getElem?_eq_getElem h1, List.getElem?_eq_getElem h2] using this
theorem onI_lt {o : List Bool} {k : Int} (h : onI o k = true) : k.toNat < o.length := by
  unfold onI at h
  rcases Nat.lt_or_ge k.toNat o.length with e | e
  · exact e
  · rw [List.getElem?_eq_none e] at h; cases h
/-- What is needed: closed, and nothing else than is reached. -/
structure Least (gs : List GateM) (l : List Int) (o : List Bool) : Prop where
  len : o.length = gs.length
  sound : ∀ k : Int, 0 ≤ k → onI o k = true → NReach gs l k
  all : ∀ k ∈ l, onI o k = true
  closed : ∀ k : Int, 0 ≤ k → onI o k = true → ∀ a ∈ argsI gs k, onI o a = true
theorem Least.iff {gs : List GateM} {l : List Int} {o : List Bool} (h : Least gs l o) (ok : okArgs gs) (hl : inR gs.length l) {k : Int} (h0 : 0 ≤ k) : onI o k = true ↔ NReach gs l k := by
  refine ⟨h.sound k h0, fun r => ?_⟩
  induction r with
  | base hk => exact h.all _ hk
  | step r ha ih => exact h.closed _ (reach_range ok hl r).1 (ih (reach_range ok hl r).1) _ ha
theorem Least.uniq {gs : List GateM} {l : List Int} {a b : List Bool} (h : Least gs l a) (k : Least gs l b) (ok : okArgs gs) (hl : inR gs.length l) : a = b := by
  refine flags_ext (by rw [h.len, k.len]) fun i _ => ?_
  rw [Bool.eq_iff_iff, h.iff ok hl (by omega), k.iff ok hl (by omega)]
/-! the rounds -/
def subB : List Bool → List Bool → Bool
  | [], [] => true
  | x :: a, y :: b => (!x || y) && subB a b
  | _, _ => false
theorem subB_refl (a : List Bool) : subB a a = true := by
  induction a with
  | nil => rfl
  | cons x a ih => cases x <;> simp [subB, ih]
theorem subB_trans : ∀ {a b c : List Bool}, subB a b = true → subB b c = true → subB a c = true
  | [], [], [], _, _ => rfl
  | [], [], z :: c, _, h => by simp [subB] at h
  | [], y :: b, _, h, _ => by simp [subB] at h
  | x :: a, [], _, h, _ => by simp [subB] at h
  | x :: a, y :: b, [], _, h => by simp [subB] at h
  | x :: a, y :: b, z :: c, h, k => by
    simp only [subB, Bool.and_eq_true] at *
    exact ⟨by cases x <;> cases y <;> cases z <;> simp_all, subB_trans h.2 k.2⟩
theorem subB_anti : ∀ {a b : List Bool}, subB a b = true → subB b a = true → a = b
  | [], [], _, _ => rfl
  | [], y :: b, h, _ => by simp [subB] at h
  | x :: a, [], h, _ => by simp [subB] at h
  | x :: a, y :: b, h, k => by
    simp only [subB, Bool.and_eq_true] at *
    rw [subB_anti h.2 k.2]; cases x <;> cases y <;> simp_all
theorem subB_set : ∀ (o : List Bool) (k : Nat), subB o (o.set k true) = true
  | [], _ => rfl
  | x :: o, 0 => by simp [subB, subB_refl]
  | x :: o, k + 1 => by simp [subB, subB_set o k]
theorem subB_mark (l : List Int) : ∀ o : List Bool, subB o (markM o l) = true := by
  induction l with
  | nil => intro o; exact subB_refl o
  | cons a l ih => intro o; exact subB_trans (subB_set o _) (ih _)
theorem subB_len : ∀ {a b : List Bool}, subB a b = true → a.length = b.length
  | [], [], _ => rfl
  | [], y :: b, h => by simp [subB] at h
  | x :: a, [], h => by simp [subB] at h
  | x :: a, y :: b, h => by simp only [subB, Bool.and_eq_true] at h; simp [subB_len h.2]
theorem subB_at : ∀ {a b : List Bool} (k : Nat), subB a b = true → a[k]?.getD false = true → b[k]?.getD false = true
  | [], _, k, _, h => by simp at h
  | x :: a, [], _, h, _ => by simp [subB] at h
  | x :: a, y :: b, 0, h, k => by simp only [subB, Bool.and_eq_true] at h; simp_all
  | x :: a, y :: b, n + 1, h, k => by simp only [subB, Bool.and_eq_true] at h; simpa using subB_at n h.2 (by simpa using k)
def cnt (o : List Bool) : Nat := o.countP id
theorem cnt_le : ∀ {a b : List Bool}, subB a b = true → cnt a ≤ cnt b ∧ (cnt a = cnt b → a = b)
  | [], [], _ => ⟨Nat.le_refl _, fun _ => rfl⟩
  | [], y :: b, h => by simp [subB] at h
  | x :: a, [], h => by simp [subB] at h
  | x :: a, y :: b, h => by
    simp only [subB, Bool.and_eq_true] at h
    obtain ⟨h1, h2⟩ := cnt_le h.2
    unfold cnt at *
    cases x <;> cases y <;> simp_all <;> omega
theorem cnt_max (o : List Bool) : cnt o ≤ o.length := List.countP_le_length
theorem roundFrom_sub (l : List GateM) : ∀ (k : Nat) (o : List Bool), subB o (roundFrom l k o) = true := by
  induction l with
  | nil => intro k o; exact subB_refl o
  | cons g l ih =>
    intro k o
    simp only [roundFrom]
    split
    · exact subB_trans (subB_mark _ _) (ih _ _)
    · exact ih _ _
theorem roundFrom_sound {gs : List GateM} {q : List Int} (ok : okArgs gs) (hq : inR gs.length q) (l : List GateM) : ∀ (k : Nat) (o : List Bool), gs.drop k = l → o.length = gs.length → (∀ i : Int, 0 ≤ i → onI o i = true → NReach gs q i) →
    ∀ i : Int, 0 ≤ i → onI (roundFrom l k o) i = true → NReach gs q i := by
  induction l with
  | nil => intro k o _ _ h; exact h
  | cons g l ih =>
    intro k o hd ho h i hi hon
    simp only [roundFrom] at hon
    have hk : gs[k]? = some g := by
      have : (gs.drop k)[0]? = some g := by rw [hd]; rfl
      simpa using this
    have hd' : gs.drop (k + 1) = l := by rw [← List.drop_drop, hd]; rfl
    split at hon
    · rename_i hk2
      refine ih (k + 1) _ hd' (by rw [markM_length, ho]) (fun j hj hj2 => ?_) i hi hon
      have hr : inR o.length g.args := by rw [ho]; exact ok g (List.mem_of_getElem? hk)
      rcases (onI_mark g.args j hj o hr).1 hj2 with e | e
      · exact h j hj e
      · exact .step (h k (by omega) hk2) (by simp [argsI, hk, e])
    · exact ih (k + 1) o hd' ho h i hi hon
theorem roundFrom_fix {gs : List GateM} (ok : okArgs gs) (l : List GateM) : ∀ (k : Nat) (o : List Bool), gs.drop k = l → o.length = gs.length → subB (roundFrom l k o) o = true →
    ∀ (j : Nat) (g : GateM), l[j]? = some g → onI o ((k + j : Nat) : Int) = true → ∀ a ∈ g.args, onI o a = true := by
  induction l with
  | nil => intro k o _ _ _ j g h; simp at h
  | cons g l ih =>
    intro k o hd ho h j x hj hon a ha
    have hk : gs[k]? = some g := by
      have : (gs.drop k)[0]? = some g := by rw [hd]; rfl
      simpa using this
    have hd' : gs.drop (k + 1) = l := by rw [← List.drop_drop, hd]; rfl
    simp only [roundFrom] at h
    generalize hb : onI o k = b at h
    cases b
    · simp only [Bool.false_eq_true, if_false] at h
      cases j with
      | zero => simp at hon; rw [hon] at hb; cases hb
      | succ j => exact ih (k + 1) o hd' ho h j x (by simpa using hj) (by rw [show k + 1 + j = k + (j + 1) from by omega]; exact hon) a ha
    · simp only [if_true] at h
      have hm : markM o g.args = o := subB_anti (subB_trans (roundFrom_sub l (k + 1) _) h) (subB_mark _ _)
      rw [hm] at h
      cases j with
      | zero =>
        simp at hj; subst hj
        have hr : inR o.length g.args := by rw [ho]; exact ok g (List.mem_of_getElem? hk)
        have := (onI_mark g.args a (hr a ha).1 o hr).2 (.inr ha)
        rwa [hm] at this
      | succ j => exact ih (k + 1) o hd' ho h j x (by simpa using hj) (by rw [show k + 1 + j = k + (j + 1) from by omega]; exact hon) a ha
theorem roundM_len (gs : List GateM) (o : List Bool) : (roundM gs o).length = o.length := (subB_len (roundFrom_sub gs 0 o)).symm
theorem roundsM_fixed (gs : List GateM) (n : Nat) : ∀ o, roundM gs o = o → roundsM gs n o = o := by
  induction n with
  | zero => intro o _; rfl
  | succ n ih => intro o h; simp only [roundsM, h]; exact ih o h
theorem roundsM_fix (gs : List GateM) (n : Nat) : ∀ o : List Bool, o.length - cnt o ≤ n → roundM gs (roundsM gs n o) = roundsM gs n o := by
  induction n with
  | zero =>
    intro o h
    simp only [roundsM]
    have h1 := cnt_le (roundFrom_sub gs 0 o)
    have h2 := cnt_max (roundFrom gs 0 o)
    have h3 := cnt_max o
    have h4 := roundM_len gs o
    unfold roundM at *
    exact (h1.2 (by omega)).symm
  | succ n ih =>
    intro o h
    by_cases e : roundM gs o = o
    · rw [roundsM_fixed gs (n + 1) o e]; exact e
    · simp only [roundsM]
      refine ih _ ?_
      have h1 := cnt_le (roundFrom_sub gs 0 o)
      have h4 := roundM_len gs o
      have : cnt o ≠ cnt (roundM gs o) := fun hc => e (h1.2 hc).symm
      unfold roundM at *
      omega
theorem roundsM_len (gs : List GateM) (n : Nat) : ∀ o, (roundsM gs n o).length = o.length := by
  induction n with
  | zero => intro o; rfl
  | succ n ih => intro o; simp only [roundsM]; rw [ih, roundM_len]
theorem roundsM_sub (gs : List GateM) (n : Nat) : ∀ o, subB o (roundsM gs n o) = true := by
  induction n with
  | zero => intro o; exact subB_refl o
  | succ n ih => intro o; exact subB_trans (roundFrom_sub gs 0 o) (ih _)
theorem roundsM_sound {gs : List GateM} {q : List Int} (ok : okArgs gs) (hq : inR gs.length q) (n : Nat) : ∀ o : List Bool, o.length = gs.length → (∀ i : Int, 0 ≤ i → onI o i = true → NReach gs q i) →
    ∀ i : Int, 0 ≤ i → onI (roundsM gs n o) i = true → NReach gs q i := by
  induction n with
  | zero => intro o _ h; exact h
  | succ n ih => intro o ho h; exact ih _ (by rw [roundM_len, ho]) (roundFrom_sound ok hq gs 0 o rfl ho h)
theorem onI_none (n : Nat) (k : Int) : onI (List.replicate n false) k = false := by
  unfold onI; rw [List.getElem?_replicate]; split <;> rfl
theorem needsM_len (gs : List GateM) (l : List Int) : (needsM gs l).length = gs.length := by simp [needsM, roundsM_len, markM_length]
theorem needsM_least {gs : List GateM} {l : List Int} (ok : okArgs gs) (hl : inR gs.length l) : Least gs l (needsM gs l) := by
  have hr : inR (List.replicate gs.length false).length l := by simpa using hl
  have h0 : ∀ k : Int, 0 ≤ k → (onI (markM (List.replicate gs.length false) l) k = true ↔ k ∈ l) := fun k k0 => by
    rw [onI_mark l k k0 _ hr, onI_none]; simp
  refine ⟨needsM_len _ _, fun k k0 h => ?_, fun k hk => ?_, fun k k0 h a ha => ?_⟩
  · exact roundsM_sound ok hl _ _ (by simp [markM_length]) (fun i i0 h => .base ((h0 i i0).1 h)) k k0 h
  · exact subB_at k.toNat (roundsM_sub gs _ _) ((h0 k (hl k hk).1).2 hk)
  · obtain ⟨g, hg, hm⟩ := argsI_mem ha
    have hf := roundsM_fix gs gs.length (markM (List.replicate gs.length false) l) (by simp [markM_length])
    refine roundFrom_fix ok gs 0 _ rfl (needsM_len gs l) (by rw [show roundFrom gs 0 (needsM gs l) = needsM gs l from hf]; exact subB_refl _) k.toNat g hg ?_ a hm
    have : ((0 + k.toNat : Nat) : Int) = k := by omega
    rw [this]; exact h
/-! the work list -/
structure NeedInv (gs : List GateM) (l : List Int) (o : List Bool) (work : List Int) : Prop where
  len : o.length = gs.length
  sound : ∀ k : Int, 0 ≤ k → onI o k = true → NReach gs l k
  ws : ∀ k ∈ work, NReach gs l k
  all : ∀ k ∈ l, onI o k = true ∨ k ∈ work
  closed : ∀ k : Int, 0 ≤ k → onI o k = true → ∀ a ∈ argsI gs k, onI o a = true ∨ a ∈ work
theorem NeedInv.start (gs : List GateM) (l : List Int) : NeedInv gs l (List.replicate gs.length false) l :=
  ⟨by simp, fun k _ h => absurd h (by rw [onI_none]; decide), fun k h => .base h, fun k h => .inr h, fun k _ h => absurd h (by rw [onI_none]; decide)⟩
theorem NeedInv.done {gs : List GateM} {l : List Int} {o : List Bool} (h : NeedInv gs l o []) (ok : okArgs gs) (hl : inR gs.length l) : o = needsM gs l := by
  refine Least.uniq (gs := gs) (l := l) ⟨h.len, h.sound, fun k hk => ?_, fun k k0 hk a ha => ?_⟩ (needsM_least ok hl) ok hl
  · rcases h.all k hk with e | e
    · exact e
    · cases e
  · rcases h.closed k k0 hk a ha with e | e
    · exact e
    · cases e
theorem NeedInv.skip {gs : List GateM} {l : List Int} {o : List Bool} {work : List Int} {k : Int} (h : NeedInv gs l o (work ++ [k])) (hk : onI o k = true) : NeedInv gs l o work :=
  ⟨h.len, h.sound, fun j hj => h.ws j (by simp [hj]), fun j hj => by
    rcases h.all j hj with e | e
    · exact .inl e
    · rcases List.mem_append.1 e with e | e
      · exact .inr e
      · simp at e; subst e; exact .inl hk, fun j j0 hj a ha => by
    rcases h.closed j j0 hj a ha with e | e
    · exact .inl e
    · rcases List.mem_append.1 e with e | e
      · exact .inr e
      · simp at e; subst e; exact .inl hk⟩
theorem NeedInv.range {gs : List GateM} {l : List Int} {o : List Bool} {work : List Int} {k : Int} (h : NeedInv gs l o (work ++ [k])) (ok : okArgs gs) (hl : inR gs.length l) : 0 ≤ k ∧ k < gs.length :=
  reach_range ok hl (h.ws k (by simp))
/-! the law NetTrue -/
end Go.Proofs.Ytlafiddfplhafaa
