/- Rows of rows of words; functions that are asked of rows. -/
import Derived.Test.YtjagbnaacfhokaaPk20
import Derived.Test.YtjagbnaacfhokaaPk02
import Derived.Deep.Matrix
namespace Go.Proofs.Ytjagbnaacfhokaa
set_option linter.unusedVariables false
set_option linter.unusedSimpArgs false
open Go.RowKit

/-- A row of rows, all of the call's own. -/
structure OwnRowsF {α : Type} (f : α → Value) (E T : TypeId) (w : World) (base : Nat) (s : Value) (rows : List (List α)) (vs : List Value) : Prop where
  row : w.ownsRow base E 1 s rows.length vs
  own : ∀ (k : Nat) v r, vs[k]? = some v → rows[k]? = some r → w.ownsRow base T 1 v r.length (r.map f)
section
variable {α : Type} {f : α → Value} {E T : TypeId} {w w' : World} {base : Nat} {s : Value} {rows : List (List α)} {vs : List Value}
theorem OwnRowsF.vl (h : OwnRowsF f E T w base s rows vs) : vs.length = rows.length := by have := h.row.1; omega
theorem OwnRowsF.nil (f : α → Value) (E T : TypeId) (w : World) (base : Nat) : OwnRowsF f E T w base (.slice none 0 0) [] [] := ⟨World.ownsRow_nil _ _ _ _, fun k v r h => by simp at h⟩
theorem OwnRowsF.ext (h : OwnRowsF f E T w base s rows vs) (hx : Ext w w') : OwnRowsF f E T w' base s rows vs := ⟨own_ext h.row hx, fun k v r hv hr => own_ext (h.own k v r hv hr) hx⟩
theorem OwnRowsF.base_le {base' : Nat} (h : OwnRowsF f E T w base s rows vs) (hb : base' ≤ base) : OwnRowsF f E T w base' s rows vs := ⟨own_base h.row hb, fun k v r hv hr => own_base (h.own k v r hv hr) hb⟩
theorem OwnRowsF.push (h : OwnRowsF f E T w base s rows vs) (hne : T ≠ E) {s' v : Value} {r : List α} (hv : w.ownsRow base T 1 v r.length (r.map f)) (hown : w'.ownsRow base E 1 s' (rows.length + 1) (vs ++ [v])) (hg : w.grownBy w' s.ownBlock) :
    OwnRowsF f E T w' base s' (rows ++ [r]) (vs ++ [v]) := by
  refine ⟨by simpa using hown, fun k y z hy hz => ?_⟩
  have hvl := h.vl
  by_cases hk : k < vs.length
  · rw [List.getElem?_append_left hk] at hy
    rw [List.getElem?_append_left (by omega)] at hz
    have h1 := h.own k y z hy hz
    exact h1.kept hg (own_types h1 h.row hne)
  · rw [List.getElem?_append_right (by omega)] at hy hz
    rw [← hvl] at hz
    cases hq : k - vs.length with
    | zero =>
      rw [hq] at hy hz
      simp at hy hz
      subst hy; subst hz
      exact hv.kept hg (own_types hv h.row hne)
    | succ q => rw [hq] at hy; simp at hy
theorem own_aside {e : TypeId} {size n : Nat} {v : Value} {xs : List Value} {g : Nat} (h : w.ownsRow base e size v n xs) (hb : g < base) (k : Aside g g w w') : w'.ownsRow base e size v n xs := by
  rcases h with ⟨hl, h0 | ⟨g', cap, cur, rfl, hg, hh, r⟩⟩
  · exact ⟨hl, .inl h0⟩
  · exact ⟨hl, .inr ⟨g', cap, cur, rfl, hg, (k.block g' (Array.getElem?_eq_some_iff.1 hh).1 (by omega) (by omega)).trans hh, r⟩⟩
theorem OwnRowsF.aside {g : Nat} (h : OwnRowsF f E T w base s rows vs) (hb : g < base) (k : Aside g g w w') : OwnRowsF f E T w' base s rows vs := ⟨own_aside h.row hb k, fun j v r hv hr => own_aside (h.own j v r hv hr) hb k⟩
end
/-- A slice of slices that is read. -/
def SlRowsF {α : Type} (f : α → Value) (w : World) (A : Option Addr) (n : Nat) (rows : List (List α)) : Prop :=
  rows.length = n ∧ ∀ (k : Nat) r, rows[k]? = some r → ∃ b off A' c, A = some ⟨b, off, none⟩ ∧ w.cell? ⟨b, off + k, none⟩ = some (.slice A' r.length c) ∧ Sl w A' r.length (r.map f) ∧ r.length ≤ c ∧ c ≤ maxLen
section
variable {α : Type} {f : α → Value} {w w' : World} {A : Option Addr} {n : Nat} {rows : List (List α)}
theorem SlRowsF.keep (h : SlRowsF f w A n rows) (hk : Keeps w w') : SlRowsF f w' A n rows :=
  ⟨h.1, fun k r hr => let ⟨b, off, A', c, e, hc, hs, h1, h2⟩ := h.2 k r hr; ⟨b, off, A', c, e, hk _ _ hc, hs.keep hk, h1, h2⟩⟩
theorem SlRowsF.nil (f : α → Value) (w : World) (A : Option Addr) : SlRowsF f w A 0 [] := ⟨rfl, fun k r h => by simp at h⟩
theorem OwnRowsF.slice {E T : TypeId} {base : Nat} {s : Value} {vs : List Value} (h : OwnRowsF f E T w base s rows vs) : ∃ A c, s = .slice A rows.length c ∧ rows.length ≤ c ∧ c ≤ maxLen ∧ SlRowsF f w A rows.length rows := by
  obtain ⟨A, c, rfl, h1, h2, hc⟩ := own_slice h.row
  refine ⟨A, c, rfl, h1, h2, rfl, fun k r hr => ?_⟩
  have hk : k < vs.length := by have := h.vl; have := (List.getElem?_eq_some_iff.1 hr).1; omega
  obtain ⟨b, off, e, hcell⟩ := hc k vs[k] (List.getElem?_eq_getElem hk)
  obtain ⟨A', c', e', g1, g2, hs⟩ := own_sl (h.own k vs[k] r (List.getElem?_eq_getElem hk) hr)
  exact ⟨b, off, A', c', e, by rw [hcell, e'], hs, g1, g2⟩
theorem SlRowsF.next (h : SlRowsF f w A n rows) {k : Nat} (hk : k < n) : ∃ b off A' c r, A = some ⟨b, off, none⟩ ∧ w.cell? ⟨b, off + k, none⟩ = some (.slice A' r.length c) ∧ Sl w A' r.length (r.map f) ∧ r.length ≤ c ∧ c ≤ maxLen ∧ rows.drop k = r :: rows.drop (k + 1) ∧ rows[k]? = some r := by
  have hl : k < rows.length := by have := h.1; omega
  obtain ⟨b, off, A', c, e, h1, h2, h3, h4⟩ := h.2 k rows[k] (List.getElem?_eq_getElem hl)
  exact ⟨b, off, A', c, rows[k], e, h1, h2, h3, h4, List.drop_eq_getElem_cons hl, List.getElem?_eq_getElem hl⟩
theorem SlRowsF.drop_end (h : SlRowsF f w A n rows) {k : Nat} (hk : ¬ k < n) : rows.drop k = [] := by
  have := h.1; exact List.drop_eq_nil_of_le (by omega)
end
/-- append of one element onto an own row, where the world behind it is not told by Ext. -/
theorem wpList_pushK {P : Program} {ops : Array Oper} {rest : List Oper} {o : Oper} {a : Act} {Q : Exit → Act → World → Prop} {w : World} (hgd : o.guard = none) (s x : Operand) (t e : TypeId)
    (ho : o.op = .call { callee := .builtin .append, args := #[s, x], argTypes := #[t, t] })
    {z : Value} {size bytes : Nat} (tab : (P.info? e).map (fun i => (i.zero, i.size, i.bytes)) = some (some z, size, bytes)) (ht : P.underlying t = some (.slice e)) (hzs : z.cells.size = size) (hsz : 0 < size)
    (base : Nat) (w0 : World) (hbase : base ≤ w0.heap.size) (v : Value) (n : Nat) (xs : List Value) (hs : a.eval s = v) (hown : w0.ownsRow base e size v n xs)
    (news : List Value) (hl : news.length = size) (hw : w = w0.alloc (.cells news.toArray e)) (B : Nat) (hx : a.eval x = .slice (some ⟨B, 0, none⟩) 1 1) (hB : B = w0.heap.size) (h1 : ∀ u ∈ news, u.oneCell' = true)
    (h63 : n + 1 ≤ maxLen) (hbytes : (n + 1) * bytes ≤ 140737488355328)
    (h : ∀ v' w', w'.ownsRow base e size v' (n + 1) (xs ++ news) → w0.grownBy w' v.ownBlock → wpList P ops Q rest (a.put o.dst v') w') : wpList P ops Q (o :: rest) a w := by
  subst hw; subst hB
  obtain ⟨i, hi, hz, hs1, hs2⟩ := info_parts tab
  refine wpList_append_own _ hgd s x t ho base e i z size bytes ht hi hz hs1 hs2 hzs hsz v n xs hs (hown.alloc _) ⟨w0.heap.size, 0, none⟩ 1 1 news hx (by omega) (fun j u hu => ?_) h1 h63 hbytes (Nat.le_trans hbase (by simp)) ?_
  · rw [add_zero, World.cell?_alloc_new]; simpa using hu
  · intro v' w' hown' hg _
    refine h v' w' hown' ⟨hg.os, hg.tape, hg.output, Nat.le_trans (by simp) hg.size, fun k hk hne => (hg.block k (by simp; omega) hne).trans (Below.heap_alloc w0 _ k hk)⟩
theorem Board.kept {w w' : World} {base bb nb vb : Nat} {LA : Option Addr} {lc gn : Nat} {l : List Int} {v : List (BitVec 64)} (h : Board w base bb nb vb LA lc gn l v) {row : Option Nat} (hg : w.grownBy w' row) {B1 : Nat}
    (hbb : bb < B1) (hvb : vb < B1) (hLA : ∀ p, LA = some p → 0 < l.length → p.block < B1) (hrow : ∀ k, row = some k → B1 ≤ k) : Board w' base bb nb vb LA lc gn l v := by
  have far : ∀ p u, w.cell? p = some u → p.block < B1 → w'.cell? p = some u := fun p u hc hp =>
    (hg.cell_far p (lt_of_cell hc) (fun e => by have := hrow _ e.symm; omega)).trans hc
  refine ⟨far _ _ h.c0 hbb, far _ _ h.c1 hbb, far _ _ h.c2 hbb, h.lm, ⟨h.sl.1, fun k u hu => ?_⟩, h.row.kept hg (.inr (fun e => by have := hrow vb e.symm; omega)), h.bne, h.lne⟩
  obtain ⟨b, off, e, hc⟩ := h.sl.2 k u hu
  have hl : 0 < l.length := by have := (List.getElem?_eq_some_iff.1 hu).1; simp at this; omega
  have hb := hLA _ e hl
  exact ⟨b, off, e, far _ _ hc hb⟩
theorem Board.la {w : World} {base bb nb vb : Nat} {LA : Option Addr} {lc gn : Nat} {l : List Int} {v : List (BitVec 64)} (h : Board w base bb nb vb LA lc gn l v) : ∀ p, LA = some p → 0 < l.length → p.block < w.heap.size := by
  intro p e hl
  obtain ⟨b, off, x, e2, hc, -⟩ := h.sl.at_ hl
  rw [e] at e2; injection e2 with e2; subst e2
  exact lt_of_cell hc

/-! asked of rows -/
def indexR {α : Type} (q : α → Bool) : List α → Int → Int
  | [], _ => -1
  | x :: l, k => if q x then k else indexR q l (k + 1)
theorem indexR_lo {α : Type} (q : α → Bool) (l : List α) : ∀ k : Int, 0 ≤ k → decide (0 ≤ indexR q l k) = l.any q := by
  induction l with
  | nil => intro k _; simp [indexR]
  | cons x l ih =>
    intro k hk
    by_cases h : q x = true
    · simp [indexR, h, hk]
    · simp only [indexR, if_neg h, ih (k + 1) (by omega), List.any_cons]; simp [h]
def AsksR (P : Program) (g : FuncId) (caps : Array Value) (w : World) (q : List (BitVec 64) → Bool) : Prop :=
  (∀ args W, (callFunc g args).run P W = .ok (.enter g args) W) ∧ ∀ (A : Option Addr) (x : List (BitVec 64)) (c : Nat), x.length ≤ maxLen → Calls P g (#[.slice A x.length c] ++ caps) w fun e w' => e = .returned (.bool (q x)) ∧ w = w'
set_option maxHeartbeats 1000000 in
theorem indexRows_any (A : Option Addr) (n c : Nat) (xs : List (List (BitVec 64))) (g : FuncId) (caps : Array Value) (q : List (BitVec 64) → Bool) (w : World) (h : SlRowsF U w A n xs) (hn : n ≤ maxLen) (hq : AsksR Try.prog g caps w q) :
    Calls Try.prog 123 #[.slice A n c, .func (.func g) #[] caps] w fun e w' => e = .returned (I (indexR q xs 0)) ∧ w = w' := by
  unfold maxLen at hn
  have H := Lib.hid h; clear h
  have HQ := Lib.hid hq; clear hq
  go_enter Try.func123, Try.ntmps123
  go_wp2
  go_loop [8] (fun i => ∃ (k : Nat), k ≤ n ∧ i = .int .i64 k ∧ indexR q (xs.drop k) k = indexR q xs 0) (fun i => n - (intOf i).toNat)
  case atStart => exact ⟨0, Nat.zero_le _, rfl, rfl⟩
  case round =>
    obtain ⟨k, hk, rfl, hM⟩ := hrel
    by_cases hlt : k < n
    · obtain ⟨b, off, A', c', x, rfl, hc, -, hl1, hl2, hd, -⟩ := H.out.next hlt
      rw [hd, indexR] at hM
      have HM := Lib.hid hM; clear hM hd
      have hcf := HQ.out.1
      have HL := Lib.hid (Nat.le_trans hl1 hl2); clear hl1 hl2
      by_cases hqx : q x = true
      all_goals
        go_wp2_with (refine (HQ.out.2 A' x c' HL.out).mono ?_; rintro e w' ⟨rfl, rfl⟩)
      · go_ret; exact ⟨ret_int (by rw [← HM.out, if_pos hqx]), rfl⟩
      · go_round
        case rel => exact ⟨k + 1, by omega, by go_num, by rw [← HM.out, if_neg hqx]; simp⟩
        case measure => simp [intOf]; omega
    · rw [H.out.drop_end hlt, indexR] at hM
      have HM := Lib.hid hM; clear hM
      go_wp2
      go_ret; exact ⟨ret_int HM.out, rfl⟩
theorem containsRows_any (A : Option Addr) (n c : Nat) (xs : List (List (BitVec 64))) (g : FuncId) (caps : Array Value) (q : List (BitVec 64) → Bool) (w : World) (h : SlRowsF U w A n xs) (hn : n ≤ maxLen) (hq : AsksR Try.prog g caps w q) :
    Calls Try.prog 89 #[.slice A n c, .func (.func g) #[] caps] w fun e w' => e = .returned (.bool (xs.any q)) ∧ w = w' := by
  have H := Lib.hid h; clear h
  have HQ := Lib.hid hq; clear hq
  have HM := Lib.hid (indexR_lo q xs 0 (Int.le_refl _))
  go_enter Try.func89, Try.ntmps89
  go_wp2_with (go_at_call 123; refine (indexRows_any A n c xs g caps q w H.out hn HQ.out).mono ?_; rintro e w' ⟨rfl, rfl⟩)
  go_ret; exact ⟨ret_bool HM.out, rfl⟩
def badRow (i : Int) (x : List (BitVec 64)) : Bool := (x.length : Int) != i
theorem run1_any (A : Option Addr) (x : List (BitVec 64)) (c b : Nat) (i : Int) (w : World) (hc : w.cell? ⟨b, 0, none⟩ = some (I i)) (hx : x.length ≤ maxLen) :
    Calls Try.prog 90 #[.slice A x.length c, .pointer (some ⟨b, 0, none⟩)] w fun e w' => e = .returned (.bool (badRow i x)) ∧ w = w' := by
  unfold badRow
  go_enter Try.func90, Try.ntmps90
  go_wp2
  go_ret
  exact ⟨rfl, rfl⟩
theorem enter_run1 : ∀ args W, (callFunc 90 args).run Try.prog W = .ok (.enter 90 args) W := by
  intro args W
  go_simp
theorem asks_run1 (b : Nat) (i : Int) (w : World) (hc : w.cell? ⟨b, 0, none⟩ = some (I i)) : AsksR Try.prog 90 #[.pointer (some ⟨b, 0, none⟩)] w (badRow i) := ⟨enter_run1, fun A x c hx => run1_any A x c b i w hc hx⟩
end Go.Proofs.Ytjagbnaacfhokaa
/- Rows of words that come in, opened. -/
namespace Go.Proofs.Ytjagbnaacfhokaa
set_option linter.unusedVariables false
set_option linter.unusedSimpArgs false
open Go.ChangeShapes Go.WideShapes Go.ChangeAt Go.RowKit

theorem wf_u64 {n : Int} (h : (Lit.int .u64 n).wf = true) : ∃ x : BitVec 64, (.int .u64 n : Value) = U x := by
  have hw : 0 ≤ n ∧ n ≤ 18446744073709551615 := by simpa [Lit.wf, IntKind.min, IntKind.max, IntKind.signed, IntKind.bits] using h
  refine ⟨BitVec.ofNat 64 n.toNat, ?_⟩
  have : uI (BitVec.ofNat 64 n.toNat) = n := by
    unfold uI; rw [BitVec.toNat_ofNat, Nat.mod_eq_of_lt (by omega)]; omega
  show _ = Value.int .u64 _
  rw [this]
theorem words_of : ∀ zs : List Int, (∀ n ∈ zs, (Lit.int .u64 n).wf = true) → ∃ xs : List (BitVec 64), xs.map U = zs.map (fun n => (.int .u64 n : Value))
  | [], _ => ⟨[], rfl⟩
  | z :: zs, h => by
    obtain ⟨xs, e⟩ := words_of zs (fun n hn => h n (by simp [hn]))
    obtain ⟨x, ex⟩ := wf_u64 (h z (by simp))
    exact ⟨x :: xs, by rw [List.map_cons, List.map_cons, e, ex]⟩
theorem sl_of_words {w : World} {x : Addr} {len cap : Nat} {zs : List Int} (hl : len ≤ cap) (hz : zs.length = cap)
    (hc : ∀ i, i < zs.length → w.cell? (x.add i) = some (.int .u64 (zs.getD i 0))) : Sl w (some x) len ((zs.take len).map fun n => (.int .u64 n : Value)) := by
  refine ⟨by simp; omega, fun k u hu => ?_⟩
  rw [List.getElem?_map, List.getElem?_take] at hu
  split at hu
  · rename_i hk
    have hs : x.spot = none := spot_none (hc 0 (by omega)) rfl
    obtain ⟨b, o, s⟩ := x
    subst hs
    refine ⟨b, o, rfl, ?_⟩
    have h := hc k (by omega)
    rw [add_plain'] at h
    rw [h, List.getD_eq_getElem?_getD]
    rw [List.getElem?_eq_getElem (by omega)] at hu ⊢
    simpa using hu
  · simp at hu
section
variable {H : Type} {enc : TypeId × Value → H} {w : World} {base : Nat} {held : Bool} {fuel : Nat}
theorem open_words {cs : List Value} {x : DataW H × List MemPlace} (h : DataW.trod enc Try.prog w base (fun _ => true) held fuel 48 cs = some x) :
    ∃ (A : Option Addr) (n c : Nat) (zs : List (BitVec 64)), cs = [.slice A n c] ∧ Sl w A n (zs.map U) ∧ n ≤ c ∧ c ≤ maxLen := by
  rcases open_ints Try.underlying48 Try.underlying79 (by kernel_rfl) h with ⟨hcs, _⟩ | ⟨x, l, c, zs, hcs, _, hl, hm, hz, hx, hcell, hwz⟩
  · exact ⟨none, 0, 0, [], hcs, Sl.nil _ _, Nat.le_refl _, Nat.zero_le _⟩
  · simp only [if_true] at hz
    obtain ⟨xs, e⟩ := words_of (zs.take l) (fun n hn => hwz n (List.mem_of_mem_take hn))
    exact ⟨some x, l, c, xs, hcs, by rw [e]; exact sl_of_words hl (by simpa using hz) hcell, hl, hm⟩
theorem open_word_rows {cs : List Value} {x : DataW H × List MemPlace} (h : DataW.trod enc Try.prog w base (fun _ => true) held fuel 53 cs = some x) :
    ∃ (A : Option Addr) (n c : Nat) (rows : List (List (BitVec 64))), cs = [.slice A n c] ∧ SlRowsF U w A n rows ∧ n ≤ c ∧ c ≤ maxLen := by
  rcases Go.Deep.open_int_rows Try.underlying53 Try.underlying48 Try.underlying79 (by kernel_rfl) (by kernel_rfl) h with ⟨hcs, _⟩ | ⟨a, len, cap, A, L, C, Z, hcs, hb, hl, hm, _, hr⟩
  · exact ⟨none, 0, 0, [], hcs, SlRowsF.nil _ _ _, Nat.le_refl _, Nat.zero_le _⟩
  · obtain ⟨rows, hrl, hrs⟩ := list_of (α := List (BitVec 64)) (Q := fun i r => w.cell? (a.add i) = some (.slice (A i) (L i) (C i)) ∧ r.length = L i ∧ Sl w (A i) (L i) (r.map U) ∧ L i ≤ C i ∧ C i ≤ maxLen) len (by
      intro i hi
      obtain ⟨h1, h2, h3, h4, h5, h6, h7⟩ := hr i (by omega)
      cases ha : A i with
      | none =>
        have hc0 := h6 ha
        have hl0 : L i = 0 := by omega
        rw [ha] at h1
        exact ⟨[], h1, by rw [hl0]; rfl, by rw [hl0]; exact Sl.nil _ _, h2, h3⟩
      | some a' =>
        obtain ⟨xs, e⟩ := words_of ((Z i).take (L i)) (fun n hn => h5 n (List.mem_of_mem_take hn))
        have hs := sl_of_words (w := w) (x := a') h2 h4 (fun j hj => (h7 a' ha).2 j (by omega))
        rw [← e] at hs
        rw [ha] at h1
        exact ⟨xs, h1, hs.len, hs, h2, h3⟩)
    refine ⟨some a, len, cap, rows, hcs, ⟨hrl, fun k r hk => ?_⟩, hl, hm⟩
    obtain ⟨h1, h2, h3, h4, h5⟩ := hrs k r hk
    obtain ⟨b, o, rfl⟩ : ∃ b o, a = ⟨b, o, none⟩ := by
      have hk0 : 0 < rows.length := by have := (List.getElem?_eq_some_iff.1 hk).1; omega
      exact spot_of (hrs 0 _ (List.getElem?_eq_getElem hk0)).1 (by omega)
    rw [add_plain'] at h1
    rw [← h2] at h1 h3 h4
    exact ⟨b, o, _, _, rfl, h1, h3, h4, h5⟩
end
end Go.Proofs.Ytjagbnaacfhokaa
/- Run of pack, by the program and by the reference. -/
namespace Go.Proofs.Ytjagbnaacfhokaa
set_option linter.unusedVariables false
set_option linter.unusedSimpArgs false
open Go.RowKit

def prunE (N : NetM) (rows : List (List (BitVec 64))) : Int := if (orderV N).2 ≠ 0 then (orderV N).2 else if 60 < rows.length then 2 else if rows.any (badRow N.ins) then 1 else 0
def prunV (N : NetM) (rows : List (List (BitVec 64))) : List (List (BitVec 64)) := if prunE N rows = 0 then runW N (firstW N) rows else []
/-- What Run tells: rows, error. -/
def PRunE (w w' : World) (e : Ending) (x : Int) (q : List (List (BitVec 64))) : Prop :=
  ∃ vr vs, e = .returned (Pr vr (I x)) ∧ OwnRowsF U 48 79 w' w.heap.size vr q vs ∧ Ext w w'
structure PRunSt (N : NetM) (rows : List (List (BitVec 64))) (k : Nat) (r : List (BitVec 64)) (out : List (List (BitVec 64))) : Prop where
  eqn : runW N (firstW N) rows = out ++ runW N r (rows.drop k)
  len : r.length = N.regs.length
  ol : out.length = k
theorem PRunSt.start (N : NetM) (rows : List (List (BitVec 64))) : PRunSt N rows 0 (firstW N) [] := ⟨by simp, by simp [firstW], rfl⟩
theorem PRunSt.next {N : NetM} {l : List Int} (hO : orderM N.gates = some l) {rows : List (List (BitVec 64))} {k : Nat} {r : List (BitVec 64)} {out : List (List (BitVec 64))} (h : PRunSt N rows k r out) {x : List (BitVec 64)} (hx : rows.drop k = x :: rows.drop (k + 1)) :
    PRunSt N rows (k + 1) (playW N r x).2 (out ++ [(playW N r x).1]) := ⟨by rw [h.eqn, hx, runW]; simp, (play_len hO r x).2, by simp [h.ol]⟩
theorem PRunSt.done {N : NetM} {rows : List (List (BitVec 64))} {r : List (BitVec 64)} {out : List (List (BitVec 64))} (h : PRunSt N rows rows.length r out) : runW N (firstW N) rows = out := by
  rw [h.eqn, List.drop_length, runW, List.append_nil]
theorem firstW_next {N : NetM} {k : Nat} {r : StoreM} (h : N.regs[k]? = some r) : ((firstW { N with regs := N.regs.take (k + 1) }).map U) = (firstW { N with regs := N.regs.take k }).map U ++ [U (if r.fst then BitVec.allOnes 64 else 0#64)] := by
  unfold firstW; rw [take_next (fun r : StoreM => if r.fst then BitVec.allOnes 64 else 0#64) N.regs h, List.map_append]; rfl
theorem tab_words : (Try.prog.info? 48).map (fun i => (i.zero, i.size, i.bytes)) = some (some (.slice none 0 0), 1, 24) := by kernel_rfl
theorem own_types' {w : World} {base : Nat} {e : TypeId} {size n : Nat} {v : Value} {xs : List Value} (h : w.ownsRow base e size v n xs) {g : Nat} (hg : g < base) : ∀ k, v.ownBlock = some k → base ≤ k := fun k hk => (h.lt k hk).1
theorem firstM_at {N : NetM} {k : Nat} {r : StoreM} (h : N.regs[k]? = some r) : (firstM N)[k]? = some (if r.fst then 1 else 0) := by unfold firstM; rw [List.getElem?_map, h]; rfl
theorem own_ne {w : World} {base : Nat} {e : TypeId} {size n c : Nat} {A : Option Addr} {xs : List Value} (h : w.ownsRow base e size (.slice A n c) n xs) {g : Nat} (hg : g < base) : ∀ p, A = some p → 0 < n → p.block ≠ g := by
  intro p e1 _ e2
  subst e1
  have := (h.lt p.block rfl).1
  omega
section
variable (i : Int) (GA : Option Addr) (gn gc : Nat) (RA : Option Addr) (rn rc : Nat) (OA : Option Addr) (on oc : Nat) (N : NetM) (A : Option Addr) (n c : Nat) (rows : List (List (BitVec 64))) (w : World)
set_option maxRecDepth 100000 in
set_option maxHeartbeats 8000000 in
theorem packRun_any (h : NetC w i GA gn gc RA rn rc OA on oc N) (hl : SlRowsF U w A n rows) (hn : n ≤ maxLen) :
    Calls Try.prog 45 #[netV i GA gn gc RA rn rc OA on oc, .slice A n c] w fun e w' => PRunE w w' e (prunE N rows) (prunV N rows) := by
  have hgl : N.gates.length = gn := h.gates.1
  have hrl : N.regs.length = rn := h.regs.1
  have hol : N.outs.length = on := h.outs.len
  have hrows := hl.1; have hin := h.ins
  obtain ⟨W, hW⟩ : ∃ W, W = w.alloc (.cells #[I i, .slice GA gn gc, .slice RA rn rc, .slice OA on oc] 26) := ⟨_, rfl⟩
  have hxW : Ext w W := by rw [hW]; exact (Ext.refl _).alloc _
  have hbox : NetBox W w.heap.size i GA gn gc RA rn rc OA on oc := by rw [hW]; exact NetBox.new w i GA gn gc RA rn rc OA on oc _
  have HN := Lib.hid (h.keep hxW.keeps); have HBox := Lib.hid hbox; have HW := Lib.hid hW; have HX := Lib.hid hxW
  have HL := Lib.hid (hl.keep hxW.keeps)
  have HNM := Lib.hid hn
  unfold maxLen at hn
  clear h hl hW hxW hbox
  by_cases h0 : (orderV N).2 = 0
  · obtain ⟨ok, hc, l, hO, hV⟩ := orderV_ok h0
    have hgn : gn ≤ 200 := by have := ok.gl; omega
    have hr20 : rn ≤ 20 := by have := ok.rl; omega
    have hlay := lay_good i GA gn gc RA rn rc OA on oc N w.heap.size W HBox.out HN.out l hV hgn
    have HLAY := Lib.hid hlay; have HOK := Lib.hid ok; have HO := Lib.hid hO
    have H0 := Lib.hid h0
    clear hlay ok hO hV hc h0
    by_cases h60 : 60 < n
    · have HRE : Hid (prunE N rows = 2) := by unfold Hid prunE; rw [if_neg (by simp [H0.out]), if_pos (by omega)]
      have HRV : Hid (prunV N rows = []) := by unfold Hid prunV; rw [HRE.out]; rfl
      clear hgl hrl hol hrows hin
      go_enter Try.func45, Try.ntmps45
      go_wp2_with fail
      rw [← HW.out]
      refine HLAY.out.mono ?_; rintro e w1 ⟨bb, vb, LA, lc, rfl, hB, x1⟩
      have X1 := Lib.hid x1; clear hB x1
      go_wp2
      exact bodyPost_ret (v := Pr (.slice none 0 0) (I 2)) (by simp [results, Try.results45, go_sem]) rfl ⟨_, [], by rw [HRE.out], by rw [HRV.out]; exact OwnRowsF.nil _ _ _ _ _, HX.out.trans X1.out⟩
    · cases hb : rows.any (badRow N.ins) with
      | true =>
        have HRE : Hid (prunE N rows = 1) := by unfold Hid prunE; rw [if_neg (by simp [H0.out]), if_neg (by omega), if_pos hb]
        have HRV : Hid (prunV N rows = []) := by unfold Hid prunV; rw [HRE.out]; rfl
        have HB := Lib.hid hb
        obtain rfl : i = N.ins := hin
        clear hgl hrl hol hrows hb
        go_enter Try.func45, Try.ntmps45
        go_wp2_with fail
        rw [← HW.out]
        refine HLAY.out.mono ?_; rintro e w1 ⟨bb, vb, LA, lc, rfl, hB, x1⟩
        have X1 := Lib.hid x1; clear hB x1
        go_wp2_with fail
        refine (containsRows_any A n c rows _ _ (badRow N.ins) w1 (HL.out.keep X1.out.keeps) HNM.out (asks_run1 w.heap.size N.ins w1 (HBox.out.keep X1.out.keeps).1)).mono ?_; rintro e w' ⟨rfl, rfl⟩; rw [HB.out]
        go_wp2
        exact bodyPost_ret (v := Pr (.slice none 0 0) (I 1)) (by simp [results, Try.results45, go_sem]) rfl ⟨_, [], by rw [HRE.out], by rw [HRV.out]; exact OwnRowsF.nil _ _ _ _ _, HX.out.trans X1.out⟩
      | false =>
        have HRE : Hid (prunE N rows = 0) := by unfold Hid prunE; rw [if_neg (by simp [H0.out]), if_neg (by omega), if_neg (by simp [hb])]
        have HRV : Hid (prunV N rows = runW N (firstW N) rows) := by unfold Hid prunV; rw [HRE.out]; rfl
        have hall : ∀ x ∈ rows, (x.length : Int) = N.ins := fun x hx => by have := List.any_eq_false.1 hb x hx; simpa [badRow] using this
        have HB := Lib.hid hb; have HALL := Lib.hid hall
        obtain rfl : i = N.ins := hin
        have HRL := Lib.hid hrl; have HOL := Lib.hid hol; have HROWS := Lib.hid hrows
        clear hgl hrl hol hrows hb hall
        go_enter Try.func45, Try.ntmps45
        go_wp2_with fail
        rw [← HW.out]
        refine HLAY.out.mono ?_; rintro e w1 ⟨bb, vb, LA, lc, rfl, hB, x1⟩
        have hbb : bb < w1.heap.size := lt_of_cell hB.c0
        have hvb : vb < w1.heap.size := (hB.row.lt vb rfl).2
        have HLA := Lib.hid hB.la
        have HBB := Lib.hid hbb; have HVB := Lib.hid hvb
        have X1 := Lib.hid x1; have HBD := Lib.hid hB; clear hB x1 HLAY hbb hvb
        go_wp2_with fail
        refine (containsRows_any A n c rows _ _ (badRow N.ins) w1 (HL.out.keep X1.out.keeps) HNM.out (asks_run1 w.heap.size N.ins w1 (HBox.out.keep X1.out.keeps).1)).mono ?_; rintro e w' ⟨rfl, rfl⟩; rw [HB.out]
        obtain ⟨q0, q1, q2, q3⟩ := HBox.out.keep X1.out.keeps
        go_wp2_with fail
        refine (first_any N.ins GA gn gc RA rn rc OA on oc N w1 (HN.out.keep X1.out.keeps) hr20).mono ?_; rintro e w2 ⟨v2, rfl, hown2, x2⟩
        obtain ⟨FA, fc, rfl, -, -, hfs⟩ := own_sl hown2
        have HFS := Lib.hid hfs; have X2 := Lib.hid x2
        clear hown2 hfs x2 q0 q1 q2 q3
        go_wp2_with fail
        go_loopw [8, 31] (fun s j wr => ∃ (k : Nat), k ≤ rn ∧ j = .int .i64 k ∧ Ext w2 wr ∧ wr.ownsRow w2.heap.size 79 1 s k ((firstW { N with regs := N.regs.take k }).map U)) (fun _ j _ => rn - (intOf j).toNat)
        case atStart => exact ⟨0, Nat.zero_le _, rfl, Ext.refl _, World.ownsRow_nil _ _ _ _⟩
        case round =>
          obtain ⟨k, hk, rfl, hext, hown⟩ := hrel
          by_cases hlt : k < rn
          · obtain ⟨r, hr⟩ : ∃ r, N.regs[k]? = some r := ⟨_, List.getElem?_eq_getElem (by rw [HRL.out]; exact hlt)⟩
            obtain ⟨b, off, x, rfl, hc0, hx⟩ := HFS.out.at_ hlt
            have hcx := hext.keeps _ _ hc0
            have hfm := firstM_at hr
            rw [hx] at hfm
            obtain rfl : x = if r.fst then 1 else 0 := Option.some.inj hfm
            have hnx := firstW_next hr
            have HNX := Lib.hid hnx; have HOWN := Lib.hid hown; have HE := Lib.hid hext
            have HX12 := Lib.hid (X2.out.trans hext)
            clear hnx hown hext hx hc0 hfm hr
            cases hf : r.fst
            all_goals
              rw [hf] at hcx HNX
              simp only [if_true, Bool.false_eq_true, if_false] at hcx HNX
              go_wp2_with (at_builtin; refine wpList_pushK rfl (.tmp 35) (.tmp 39) 48 79 rfl tab_u64 Try.underlying48 rfl (by omega) w2.heap.size wr HE.out.size _ k _ rfl HOWN.out [_] rfl rfl _ rfl rfl (by simp [Value.oneCell']) (by unfold maxLen; omega) (by omega) ?_; intro v' w3 hown3 hg3)
              go_roundw
              case rel => exact ⟨k + 1, by omega, by go_num, Below.grown HE.out hg3 HE.out.size (fun b hb => (HOWN.out.lt b hb).1), by rw [HNX.out]; exact hown3⟩
              case measure => simp [intOf]; omega
          · obtain rfl : k = rn := by omega
            have ht : N.regs.take k = N.regs := List.take_of_length_le (by rw [HRL.out]; exact Nat.le_refl _)
            rw [ht] at hown
            have hown' : wr.ownsRow w2.heap.size 79 1 u8 k ((firstW N).map U) := hown
            have HR0 := Lib.hid (own_base hown' X2.out.size); have X3 := Lib.hid (X2.out.trans hext)
            have HST := Lib.hid (PRunSt.start N rows)
            obtain ⟨w3, hw3⟩ : ∃ q, q = wr := ⟨_, rfl⟩
            subst hw3
            have HBD3 := Lib.hid (HBD.out.ext X3.out)
            clear hown hown' ht hext HFS hlt
            go_wp2_with fail
            go_loopw [8, 11, 44] (fun sr so j wr => ∃ (q : Nat) (r : List (BitVec 64)) (out : List (List (BitVec 64))) (vs : List Value), q ≤ n ∧ j = .int .i64 q ∧ Aside vb vb w1 wr ∧ wr.ownsRow w1.heap.size 79 1 sr k (r.map U) ∧ OwnRowsF U 48 79 wr w1.heap.size so out vs ∧
              (∃ v', Board wr W.heap.size bb w.heap.size vb LA lc gn l v') ∧ PRunSt N rows q r out) (fun _ _ j _ => n - (intOf j).toNat)
            case atStart => exact ⟨0, firstW N, [], [], Nat.zero_le _, rfl, (Aside.refl _ _ _).more X3.out, HR0.out, OwnRowsF.nil _ _ _ _ _, ⟨_, HBD3.out⟩, HST.out⟩
            case round =>
              obtain ⟨q, r, out, vs, hq, rfl, has, hreg, hrows, ⟨v', hbd⟩, hst⟩ := hrel
              by_cases hlt : q < n
              · have hx0 : Ext W wr := has.ext X1.out HBD.out.vbase HBD.out.vbase
                obtain ⟨b, off, A', c', x, rfl, hcx, hsx, -, -, hd, hxm⟩ := (HL.out.keep hx0.keeps).next hlt
                obtain ⟨b2, off2, A2, c2, x2', e2, hcx2, hsx2, -, -, hd2, hxm2⟩ := HL.out.next hlt
                have hsW : Sl W A' x.length (x.map U) := by
                  have hk2 := hx0.keeps _ _ hcx2
                  injection e2 with e2; injection e2 with e21 e22
                  subst e21; subst e22
                  rw [hxm] at hxm2; obtain rfl := Option.some.inj hxm2
                  rw [hcx] at hk2; injection hk2 with hk2; injection hk2 with hk2 _ _
                  subst hk2; exact hsx2
                have hxl := HALL.out x (List.mem_of_getElem? hxm)
                obtain ⟨RB, pc, rfl, -, -, hsr⟩ := own_sl hreg
                have hpl := play_len HO.out r x
                rw [HOL.out, HRL.out] at hpl
                have hnext := hst.next HO.out hd
                have hql : out.length ≤ 60 := by rw [hst.ol]; omega
                have HS := Lib.hid hsW; have HXL := Lib.hid hxl; have HSR := Lib.hid hsr; have HREG := Lib.hid hreg; have HRW := Lib.hid hrows; have HAS := Lib.hid has; have HB2 := Lib.hid hbd; have HNX := Lib.hid hnext; have HPL := Lib.hid hpl; have HX0 := Lib.hid hx0
                clear e2 hcx2 hsx2 hd2 hxm2 hsx hd hxm hsW hxl hsr hreg hrows has hbd hst hnext hpl hx0
                go_wp2_with fail
                refine (playWord_any N.ins GA gn gc RA k rc OA on oc N w.heap.size W wr W.heap.size bb vb LA lc l v' RB pc A' x.length c' r x HX0.out (Nat.le_refl _) HBox.out HN.out HB2.out HOK.out HO.out HSR.out (own_ne HREG.out HVB.out) HS.out HXL.out).mono ?_
                rintro e w4 ⟨vo, vn, v4, rfl, ho, hn4, hB4, ha4⟩
                obtain ⟨A6, c6, rfl, -, -, -⟩ := own_sl ho
                have hsz4 : w1.heap.size ≤ wr.heap.size := HAS.out.size
                have hro : OwnRowsF U 48 79 w4 w1.heap.size u11 out vs := HRW.out.aside HVB.out ha4
                have HO4 := Lib.hid (own_base ho hsz4); have HN4 := Lib.hid (own_base hn4 hsz4); have HB4 := Lib.hid hB4; have HA4 := Lib.hid (HAS.out.trans ha4); have HRO := Lib.hid hro
                clear ho hn4 hB4 ha4 hro hsz4 hcx
                go_wp2_with (at_builtin; refine wpList_pushK rfl (.tmp 55) (.tmp 57) 53 48 rfl tab_words Try.underlying53 rfl (by omega) w1.heap.size w4 HA4.out.size _ out.length vs rfl HRO.out.row [.slice A6 on c6] rfl rfl _ rfl rfl (by simp [Value.oneCell']) (by unfold maxLen; omega) (by omega) ?_; intro v5 w5 hown5 hg5)
                go_roundw
                case rel => exact ⟨q + 1, (playW N r x).2, out ++ [(playW N r x).1], vs ++ [.slice A6 on c6], by omega, by go_num, HA4.out.grown hg5 (fun b hb => .inr (HRO.out.row.lt b hb).1), HN4.out.kept hg5 (own_types HN4.out HRO.out.row (by decide)), HRO.out.push (by decide) (by rw [HPL.out.1]; exact HO4.out) hown5 hg5, ⟨v4, HB4.out.kept hg5 HBB.out HVB.out HLA.out (fun b hb => (HRO.out.row.lt b hb).1)⟩, HNX.out⟩
                case measure => simp [intOf]; omega
              · obtain rfl : q = n := by omega
                have hrun : runW N (firstW N) rows = out := by have := hst; rw [← HROWS.out] at this; exact this.done
                have HRUN := Lib.hid hrun; have HRW := Lib.hid hrows
                have hx0 : Ext W wr := has.ext X1.out HBD.out.vbase HBD.out.vbase
                have HX0 := Lib.hid hx0
                clear hrun hrows hx0 has hreg hbd hst
                go_wp2
                exact bodyPost_ret (v := Pr u11 (I 0)) (by simp [results, Try.results45, go_sem]) rfl ⟨_, vs, by rw [HRE.out], by rw [HRV.out, HRUN.out]; exact HRW.out.base_le (HX.out.trans X1.out).size, HX.out.trans HX0.out⟩
  · have hlay := lay_bad i GA gn gc RA rn rc OA on oc N w.heap.size W HBox.out HN.out h0
    have HRE : Hid (prunE N rows = (orderV N).2) := by unfold Hid prunE; rw [if_pos h0]
    have HRV : Hid (prunV N rows = []) := by unfold Hid prunV; rw [HRE.out, if_neg h0]
    have g : ((orderV N).2 != 0) = true := by simpa using h0
    generalize (orderV N).2 = E at *
    have HLAY := Lib.hid hlay
    clear hlay h0 hgl hrl hol hrows hin
    go_enter Try.func45, Try.ntmps45
    go_wp2_with fail
    rw [← HW.out]
    refine HLAY.out.mono ?_; rintro e w1 ⟨rfl, x1⟩
    have X1 := Lib.hid x1
    clear x1 HLAY
    go_wp2
    exact bodyPost_ret (v := Pr (.slice none 0 0) (I E)) (by simp [results, Try.results45, go_sem]) rfl ⟨_, [], by rw [HRE.out], by rw [HRV.out]; exact OwnRowsF.nil _ _ _ _ _, HX.out.trans X1.out⟩
end
end Go.Proofs.Ytjagbnaacfhokaa
