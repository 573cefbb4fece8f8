/- Rows of rows of words; functions that are asked of rows. -/
import Derived.Test.YtlafiddfplhafaaFc15
import Derived.Test.YtlafiddfplhafaaFc02
import Derived.Test.YtlafiddfplhafaaFc01
import Derived.Deep.Matrix
import Derived.Test.YtlafiddfplhafaaFc09
import Derived.Test.YtlafiddfplhafaaFc13
import Derived.Test.YtlafiddfplhafaaFc03
namespace Go.Proofs.Ytlafiddfplhafaa
set_option linter.unusedVariables false
set_option linter.unusedSimpArgs false
set_option linter.unusedVariables false
set_option linter.unusedSimpArgs false
open Go.RowKit
/-- A row of rows, all of the call's own. -/
structure OwnRowsF {α : Type} (f : α → Value) (E T : TypeId) (w : World) (base : Nat) (s : Value) (rows : List (List α)) (vs : List Value) : Prop where
  row : w.ownsRow base E 1 s rows.length vs
  own : ∀ (k : Nat) v r, vs[k]? = some v → rows[k]? = some r → w.ownsRow base T 1 v r.length (r.map f)
section
variable {α : Type} {f : α → Value} {E T : TypeId} {w w' : World} {base : Nat} {s : Value} {rows : List (List α)} {vs : List Value}
theorem OwnRowsF.vl (h : OwnRowsF f E T w base s rows vs) : vs.length = rows.length := by have := h.row.1; omega
theorem OwnRowsF.nil (f : α → Value) (E T : TypeId) (w : World) (base : Nat) : OwnRowsF f E T w base (.slice none 0 0) [] [] := ⟨World.ownsRow_nil _ _ _ _, fun k v r h => by simp at h⟩
theorem OwnRowsF.ext (h : OwnRowsF f E T w base s rows vs) (hx : Ext w w') : OwnRowsF f E T w' base s rows vs := ⟨own_ext h.row hx, fun k v r hv hr => own_ext (h.own k v r hv hr) hx⟩
theorem OwnRowsF.base_le {base' : Nat} (h : OwnRowsF f E T w base s rows vs) (hb : base' ≤ base) : OwnRowsF f E T w base' s rows vs := ⟨own_base h.row hb, fun k v r hv hr => own_base (h.own k v r hv hr) hb⟩
theorem OwnRowsF.push (h : OwnRowsF f E T w base s rows vs) (hne : T ≠ E) {s' v : Value} {r : List α} (hv : w.ownsRow base T 1 v r.length (r.map f)) (hown : w'.ownsRow base E 1 s' (rows.length + 1) (vs ++ [v])) (hg : w.grownBy w' s.ownBlock) :
    OwnRowsF f E T w' base s' (rows ++ [r]) (vs ++ [v]) := by
  refine ⟨by simpa using hown, fun k y z hy hz => ?_⟩
  have hvl := h.vl
  by_cases hk : k < vs.length
  · rw [List.getElem?_append_left hk] at hy
    rw [List.getElem?_append_left (by omega)] at hz
    have h1 := h.own k y z hy hz
    exact h1.kept hg (own_types h1 h.row hne)
  · rw [List.getElem?_append_right (by omega)] at hy hz
    rw [← hvl] at hz
    cases hq : k - vs.length with
    | zero =>
      rw [hq] at hy hz
      simp at hy hz
      subst hy; subst hz
      exact hv.kept hg (own_types hv h.row hne)
    | succ q => rw [hq] at hy; simp at hy
theorem own_aside {e : TypeId} {size n : Nat} {v : Value} {xs : List Value} {g : Nat} (h : w.ownsRow base e size v n xs) (hb : g < base) (k : Aside g g w w') : w'.ownsRow base e size v n xs := by
  rcases h with ⟨hl, h0 | ⟨g', cap, cur, rfl, hg, hh, r⟩⟩
  · exact ⟨hl, .inl h0⟩
  · exact ⟨hl, .inr ⟨g', cap, cur, rfl, hg, (k.block g' (Array.getElem?_eq_some_iff.1 hh).1 (by omega) (by omega)).trans hh, r⟩⟩
theorem OwnRowsF.aside {g : Nat} (h : OwnRowsF f E T w base s rows vs) (hb : g < base) (k : Aside g g w w') : OwnRowsF f E T w' base s rows vs := ⟨own_aside h.row hb k, fun j v r hv hr => own_aside (h.own j v r hv hr) hb k⟩
end
/-- A slice of slices that is read. -/
def SlRowsF {α : Type} (f : α → Value) (w : World) (A : Option Addr) (n : Nat) (rows : List (List α)) : Prop :=
  rows.length = n ∧ ∀ (k : Nat) r, rows[k]? = some r → ∃ b off A' c, A = some ⟨b, off, none⟩ ∧ w.cell? ⟨b, off + k, none⟩ = some (.slice A' r.length c) ∧ Sl w A' r.length (r.map f) ∧ r.length ≤ c ∧ c ≤ maxLen
section
variable {α : Type} {f : α → Value} {w w' : World} {A : Option Addr} {n : Nat} {rows : List (List α)}
theorem SlRowsF.keep (h : SlRowsF f w A n rows) (hk : Keeps w w') : SlRowsF f w' A n rows :=
  ⟨h.1, fun k r hr => let ⟨b, off, A', c, e, hc, hs, h1, h2⟩ := h.2 k r hr; ⟨b, off, A', c, e, hk _ _ hc, hs.keep hk, h1, h2⟩⟩
theorem SlRowsF.nil (f : α → Value) (w : World) (A : Option Addr) : SlRowsF f w A 0 [] := ⟨rfl, fun k r h => by simp at h⟩
theorem OwnRowsF.slice {E T : TypeId} {base : Nat} {s : Value} {vs : List Value} (h : OwnRowsF f E T w base s rows vs) : ∃ A c, s = .slice A rows.length c ∧ rows.length ≤ c ∧ c ≤ maxLen ∧ SlRowsF f w A rows.length rows := by
  obtain ⟨A, c, rfl, h1, h2, hc⟩ := own_slice h.row
  refine ⟨A, c, rfl, h1, h2, rfl, fun k r hr => ?_⟩
  have hk : k < vs.length := by have := h.vl; have := (List.getElem?_eq_some_iff.1 hr).1; omega
  obtain ⟨b, off, e, hcell⟩ := hc k vs[k] (List.getElem?_eq_getElem hk)
  obtain ⟨A', c', e', g1, g2, hs⟩ := own_sl (h.own k vs[k] r (List.getElem?_eq_getElem hk) hr)
  exact ⟨b, off, A', c', e, by rw [hcell, e'], hs, g1, g2⟩
theorem SlRowsF.next (h : SlRowsF f w A n rows) {k : Nat} (hk : k < n) : ∃ b off A' c r, A = some ⟨b, off, none⟩ ∧ w.cell? ⟨b, off + k, none⟩ = some (.slice A' r.length c) ∧ Sl w A' r.length (r.map f) ∧ r.length ≤ c ∧ c ≤ maxLen ∧ rows.drop k = r :: rows.drop (k + 1) ∧ rows[k]? = some r := by
  have hl : k < rows.length := by have := h.1; omega
  obtain ⟨b, off, A', c, e, h1, h2, h3, h4⟩ := h.2 k rows[k] (List.getElem?_eq_getElem hl)
  exact ⟨b, off, A', c, rows[k], e, h1, h2, h3, h4, List.drop_eq_getElem_cons hl, List.getElem?_eq_getElem hl⟩
theorem SlRowsF.drop_end (h : SlRowsF f w A n rows) {k : Nat} (hk : ¬ k < n) : rows.drop k = [] := by
  have := h.1; exact List.drop_eq_nil_of_le (by omega)
end
/-- append of one element onto an own row, where the world behind it is not told by Ext. -/
theorem wpList_pushK {P : Program} {ops : Array Oper} {rest : List Oper} {o : Oper} {a : Act} {Q : Exit → Act → World → Prop} {w : World} (hgd : o.guard = none) (s x : Operand) (t e : TypeId)
    (ho : o.op = .call { callee := .builtin .append, args := #[s, x], argTypes := #[t, t] })
    {z : Value} {size bytes : Nat} (tab : (P.info? e).map (fun i => (i.zero, i.size, i.bytes)) = some (some z, size, bytes)) (ht : P.underlying t = some (.slice e)) (hzs : z.cells.size = size) (hsz : 0 < size)
    (base : Nat) (w0 : World) (hbase : base ≤ w0.heap.size) (v : Value) (n : Nat) (xs : List Value) (hs : a.eval s = v) (hown : w0.ownsRow base e size v n xs)
    (news : List Value) (hl : news.length = size) (hw : w = w0.alloc (.cells news.toArray e)) (B : Nat) (hx : a.eval x = .slice (some ⟨B, 0, none⟩) 1 1) (hB : B = w0.heap.size) (h1 : ∀ u ∈ news, u.oneCell' = true)
    (h63 : n + 1 ≤ maxLen) (hbytes : (n + 1) * bytes ≤ 140737488355328)
    (h : ∀ v' w', w'.ownsRow base e size v' (n + 1) (xs ++ news) → w0.grownBy w' v.ownBlock → wpList P ops Q rest (a.put o.dst v') w') : wpList P ops Q (o :: rest) a w := by
  subst hw; subst hB
  obtain ⟨i, hi, hz, hs1, hs2⟩ := info_parts tab
  refine wpList_append_own _ hgd s x t ho base e i z size bytes ht hi hz hs1 hs2 hzs hsz v n xs hs (hown.alloc _) ⟨w0.heap.size, 0, none⟩ 1 1 news hx (by omega) (fun j u hu => ?_) h1 h63 hbytes (Nat.le_trans hbase (by simp)) ?_
  · rw [add_zero, World.cell?_alloc_new]; simpa using hu
  · intro v' w' hown' hg _
    refine h v' w' hown' ⟨hg.os, hg.tape, hg.output, Nat.le_trans (by simp) hg.size, fun k hk hne => (hg.block k (by simp; omega) hne).trans (Below.heap_alloc w0 _ k hk)⟩
theorem Board.kept {w w' : World} {base bb nb vb : Nat} {LA : Option Addr} {lc gn : Nat} {l : List Int} {v : List (BitVec 64)} (h : Board w base bb nb vb LA lc gn l v) {row : Option Nat} (hg : w.grownBy w' row) {B1 : Nat}
    (hbb : bb < B1) (hvb : vb < B1) (hLA : ∀ p, LA = some p → 0 < l.length → p.block < B1) (hrow : ∀ k, row = some k → B1 ≤ k) : Board w' base bb nb vb LA lc gn l v := by
  have far : ∀ p u, w.cell? p = some u → p.block < B1 → w'.cell? p = some u := fun p u hc hp =>
    (hg.cell_far p (lt_of_cell hc) (fun e => by have := hrow _ e.symm; omega)).trans hc
  refine ⟨far _ _ h.c0 hbb, far _ _ h.c1 hbb, far _ _ h.c2 hbb, h.lm, ⟨h.sl.1, fun k u hu => ?_⟩, h.row.kept hg (.inr (fun e => by have := hrow vb e.symm; omega)), h.bne, h.lne⟩
  obtain ⟨b, off, e, hc⟩ := h.sl.2 k u hu
  have hl : 0 < l.length := by have := (List.getElem?_eq_some_iff.1 hu).1; simp at this; omega
  have hb := hLA _ e hl
  exact ⟨b, off, e, far _ _ hc hb⟩
theorem Board.la {w : World} {base bb nb vb : Nat} {LA : Option Addr} {lc gn : Nat} {l : List Int} {v : List (BitVec 64)} (h : Board w base bb nb vb LA lc gn l v) : ∀ p, LA = some p → 0 < l.length → p.block < w.heap.size := by
  intro p e hl
  obtain ⟨b, off, x, e2, hc, -⟩ := h.sl.at_ hl
  rw [e] at e2; injection e2 with e2; subst e2
  exact lt_of_cell hc
/-! asked of rows -/
def indexR {α : Type} (q : α → Bool) : List α → Int → Int
  | [], _ => -1
  | x :: l, k => if q x then k else indexR q l (k + 1)
theorem indexR_lo {α : Type} (q : α → Bool) (l : List α) : ∀ k : Int, 0 ≤ k → decide (0 ≤ indexR q l k) = l.any q := by
  induction l with
  | nil => intro k _; simp [indexR]
  | cons x l ih =>
    intro k hk
    by_cases h : q x = true
    · simp [indexR, h, hk]
    · simp only [indexR, if_neg h, ih (k + 1) (by omega), List.any_cons]; simp [h]
def AsksR (P : Program) (g : FuncId) (caps : Array Value) (w : World) (q : List (BitVec 64) → Bool) : Prop :=
  (∀ args W, (callFunc g args).run P W = .ok (.enter g args) W) ∧ ∀ (A : Option Addr) (x : List (BitVec 64)) (c : Nat), x.length ≤ maxLen → Calls P g (#[.slice A x.length c] ++ caps) w fun e w' => e = .returned (.bool (q x)) ∧ w = w'
set_option maxHeartbeats 1000000 in
theorem indexRows_any (A : Option Addr) (n c : Nat) (xs : List (List (BitVec 64))) (g : FuncId) (caps : Array Value) (q : List (BitVec 64) → Bool) (w : World) (h : SlRowsF U w A n xs) (hn : n ≤ maxLen) (hq : AsksR Try.prog g caps w q) :
    Calls Try.prog 89 #[.slice A n c, .func (.func g) #[] caps] w fun e w' => e = .returned (I (indexR q xs 0)) ∧ w = w' := by
  unfold maxLen at hn
  have H := Lib.hid h; clear h
  have HQ := Lib.hid hq; clear hq
  go_enter Try.func89, Try.ntmps89
  go_wp2
  go_loop [8] (fun i => ∃ (k : Nat), k ≤ n ∧ i = .int .i64 k ∧ indexR q (xs.drop k) k = indexR q xs 0) (fun i => n - (intOf i).toNat)
  case atStart => exact ⟨0, Nat.zero_le _, rfl, rfl⟩
  case round =>
    obtain ⟨k, hk, rfl, hM⟩ := hrel
    by_cases hlt : k < n
    · obtain ⟨b, off, A', c', x, rfl, hc, -, hl1, hl2, hd, -⟩ := H.out.next hlt
      rw [hd, indexR] at hM
      have HM := Lib.hid hM; clear hM hd
      have hcf := HQ.out.1
      have HL := Lib.hid (Nat.le_trans hl1 hl2); clear hl1 hl2
      by_cases hqx : q x = true
      all_goals
        go_wp2_with (refine (HQ.out.2 A' x c' HL.out).mono ?_; rintro e w' ⟨rfl, rfl⟩)
      · go_ret; exact ⟨ret_int (by rw [← HM.out, if_pos hqx]), rfl⟩
      · go_round
        case rel => exact ⟨k + 1, by omega, by go_num, by rw [← HM.out, if_neg hqx]; simp⟩
        case measure => simp [intOf]; omega
    · rw [H.out.drop_end hlt, indexR] at hM
      have HM := Lib.hid hM; clear hM
      go_wp2
      go_ret; exact ⟨ret_int HM.out, rfl⟩
theorem containsRows_any (A : Option Addr) (n c : Nat) (xs : List (List (BitVec 64))) (g : FuncId) (caps : Array Value) (q : List (BitVec 64) → Bool) (w : World) (h : SlRowsF U w A n xs) (hn : n ≤ maxLen) (hq : AsksR Try.prog g caps w q) :
    Calls Try.prog 61 #[.slice A n c, .func (.func g) #[] caps] w fun e w' => e = .returned (.bool (xs.any q)) ∧ w = w' := by
  have H := Lib.hid h; clear h
  have HQ := Lib.hid hq; clear hq
  have HM := Lib.hid (indexR_lo q xs 0 (Int.le_refl _))
  go_enter Try.func61, Try.ntmps61
  go_wp2_with (go_at_call 89; refine (indexRows_any A n c xs g caps q w H.out hn HQ.out).mono ?_; rintro e w' ⟨rfl, rfl⟩)
  go_ret; exact ⟨ret_bool HM.out, rfl⟩
def badRow (i : Int) (x : List (BitVec 64)) : Bool := (x.length : Int) != i
theorem run1_any (A : Option Addr) (x : List (BitVec 64)) (c b : Nat) (i : Int) (w : World) (hc : w.cell? ⟨b, 0, none⟩ = some (I i)) (hx : x.length ≤ maxLen) :
    Calls Try.prog 62 #[.slice A x.length c, .pointer (some ⟨b, 0, none⟩)] w fun e w' => e = .returned (.bool (badRow i x)) ∧ w = w' := by
  unfold badRow
  go_enter Try.func62, Try.ntmps62
  go_wp2
  go_ret
  exact ⟨rfl, rfl⟩
theorem enter_run1 : ∀ args W, (callFunc 62 args).run Try.prog W = .ok (.enter 62 args) W := by
  intro args W
  go_simp
theorem asks_run1 (b : Nat) (i : Int) (w : World) (hc : w.cell? ⟨b, 0, none⟩ = some (I i)) : AsksR Try.prog 62 #[.pointer (some ⟨b, 0, none⟩)] w (badRow i) := ⟨enter_run1, fun A x c hx => run1_any A x c b i w hc hx⟩
end Go.Proofs.Ytlafiddfplhafaa
/- Rows of words that come in, opened. -/
namespace Go.Proofs.Ytlafiddfplhafaa
set_option linter.unusedVariables false
set_option linter.unusedSimpArgs false
open Go.ChangeShapes Go.WideShapes Go.ChangeAt Go.RowKit
theorem wf_u64 {n : Int} (h : (Lit.int .u64 n).wf = true) : ∃ x : BitVec 64, (.int .u64 n : Value) = U x := by
  have hw : 0 ≤ n ∧ n ≤ 18446744073709551615 := by simpa [Lit.wf, IntKind.min, IntKind.max, IntKind.signed, IntKind.bits] using h
  refine ⟨BitVec.ofNat 64 n.toNat, ?_⟩
  have : uI (BitVec.ofNat 64 n.toNat) = n := by
    unfold uI; rw [BitVec.toNat_ofNat, Nat.mod_eq_of_lt (by omega)]; omega
  show _ = Value.int .u64 _
  rw [this]
theorem words_of : ∀ zs : List Int, (∀ n ∈ zs, (Lit.int .u64 n).wf = true) → ∃ xs : List (BitVec 64), xs.map U = zs.map (fun n => (.int .u64 n : Value))
  | [], _ => ⟨[], rfl⟩
  | z :: zs, h => by
    obtain ⟨xs, e⟩ := words_of zs (fun n hn => h n (by simp [hn]))
    obtain ⟨x, ex⟩ := wf_u64 (h z (by simp))
    exact ⟨x :: xs, by rw [List.map_cons, List.map_cons, e, ex]⟩
theorem sl_of_words {w : World} {x : Addr} {len cap : Nat} {zs : List Int} (hl : len ≤ cap) (hz : zs.length = cap)
    (hc : ∀ i, i < zs.length → w.cell? (x.add i) = some (.int .u64 (zs.getD i 0))) : Sl w (some x) len ((zs.take len).map fun n => (.int .u64 n : Value)) := by
  refine ⟨by simp; omega, fun k u hu => ?_⟩
  rw [List.getElem?_map, List.getElem?_take] at hu
  split at hu
  · rename_i hk
    have hs : x.spot = none := spot_none (hc 0 (by omega)) rfl
    obtain ⟨b, o, s⟩ := x
    subst hs
    refine ⟨b, o, rfl, ?_⟩
    have h := hc k (by omega)
    rw [add_plain'] at h
    rw [h, List.getD_eq_getElem?_getD]
    rw [List.getElem?_eq_getElem (by omega)] at hu ⊢
    simpa using hu
  · simp at hu
section
variable {H : Type} {enc : TypeId × Value → H} {w : World} {base : Nat} {held : Bool} {fuel : Nat}
theorem open_word_rows {cs : List Value} {x : DataW H × List MemPlace} (h : DataW.trod enc Try.prog w base (fun _ => true) held fuel 49 cs = some x) :
    ∃ (A : Option Addr) (n c : Nat) (rows : List (List (BitVec 64))), cs = [.slice A n c] ∧ SlRowsF U w A n rows ∧ n ≤ c ∧ c ≤ maxLen := by
  rcases Go.Deep.open_int_rows Try.underlying49 Try.underlying54 Try.underlying55 (by kernel_rfl) (by kernel_rfl) h with ⟨hcs, _⟩ | ⟨a, len, cap, A, L, C, Z, hcs, hb, hl, hm, _, hr⟩
  · exact ⟨none, 0, 0, [], hcs, SlRowsF.nil _ _ _, Nat.le_refl _, Nat.zero_le _⟩
  · obtain ⟨rows, hrl, hrs⟩ := list_of (α := List (BitVec 64)) (Q := fun i r => w.cell? (a.add i) = some (.slice (A i) (L i) (C i)) ∧ r.length = L i ∧ Sl w (A i) (L i) (r.map U) ∧ L i ≤ C i ∧ C i ≤ maxLen) len (by
      intro i hi
      obtain ⟨h1, h2, h3, h4, h5, h6, h7⟩ := hr i (by omega)
      cases ha : A i with
      | none =>
        have hc0 := h6 ha
        have hl0 : L i = 0 := by omega
        rw [ha] at h1
        exact ⟨[], h1, by rw [hl0]; rfl, by rw [hl0]; exact Sl.nil _ _, h2, h3⟩
      | some a' =>
        obtain ⟨xs, e⟩ := words_of ((Z i).take (L i)) (fun n hn => h5 n (List.mem_of_mem_take hn))
        have hs := sl_of_words (w := w) (x := a') h2 h4 (fun j hj => (h7 a' ha).2 j (by omega))
        rw [← e] at hs
        rw [ha] at h1
        exact ⟨xs, h1, hs.len, hs, h2, h3⟩)
    refine ⟨some a, len, cap, rows, hcs, ⟨hrl, fun k r hk => ?_⟩, hl, hm⟩
    obtain ⟨h1, h2, h3, h4, h5⟩ := hrs k r hk
    obtain ⟨b, o, rfl⟩ : ∃ b o, a = ⟨b, o, none⟩ := by
      have hk0 : 0 < rows.length := by have := (List.getElem?_eq_some_iff.1 hk).1; omega
      exact spot_of (hrs 0 _ (List.getElem?_eq_getElem hk0)).1 (by omega)
    rw [add_plain'] at h1
    rw [← h2] at h1 h3 h4
    exact ⟨b, o, _, _, rfl, h1, h3, h4, h5⟩
end
end Go.Proofs.Ytlafiddfplhafaa
/- forge.Run: what it refuses. -/
namespace Go.Proofs.Ytlafiddfplhafaa
set_option linter.unusedVariables false
set_option linter.unusedSimpArgs false
open Go.RowKit
/-- The error that Run hands back. -/
def runErr (p : List PNode) (l : List Int) : Int := if checkP p = 0 then timesM l 3 else checkP p
set_option maxHeartbeats 4000000 in
set_option maxRecDepth 100000 in
theorem run_bad (A : Option Addr) (n c : Nat) (p : List PNode) (B : Option Addr) (m d : Nat) (l : List Int) (w : World) (h : SlN w A n p) (hn : n ≤ maxLen) (hl : Sl w B m (l.map I)) (hm : m ≤ maxLen) (hr : runErr p l ≠ 0) :
    Calls Try.prog 7 #[.slice A n c, .slice B m d] w fun e w' => e = .returned (Pr (.slice none 0 0) (I (runErr p l))) ∧ Ext w w' := by
  obtain ⟨x0, hx0⟩ : ∃ x0, x0 = checkP p := ⟨_, rfl⟩
  obtain ⟨y0, hy0⟩ : ∃ y0, y0 = timesM l 3 := ⟨_, rfl⟩
  unfold runErr at hr ⊢
  rw [← hx0, ← hy0] at hr
  rw [← hx0, ← hy0]
  have H := Lib.hid h; have HQ := Lib.hid hx0; have HN := Lib.hid hn; have HL := Lib.hid hl; have HM := Lib.hid hm; have HY := Lib.hid hy0
  clear h hx0 hn hl hm hy0
  by_cases h0 : x0 = 0
  · rw [if_pos h0] at hr
    rw [if_pos h0]
    rw [h0] at HQ
    clear h0
    go_enter Try.func7, Try.ntmps7
    go_wp2_with fail
    refine (progCheck_any _ n c p w H.out HN.out).mono ?_; rintro e w1 ⟨rfl, x1⟩; rw [← HQ.out]
    have X1 := Lib.hid x1; clear x1
    go_wp2_with fail
    refine (times_any B m d l 3 w1 (HL.out.keep X1.out.keeps) HM.out (by omega)).mono ?_; rintro e w2 ⟨rfl, x2⟩; rw [← HY.out]
    have X2 := Lib.hid (X1.out.trans x2); clear x2
    go_wp2
    exact bodyPost_ret (v := Pr (.slice none 0 0) (I y0)) (by simp [results, Try.results7, go_sem]) rfl ⟨rfl, X2.out⟩
  · rw [if_neg h0] at hr
    rw [if_neg h0]
    go_enter Try.func7, Try.ntmps7
    go_wp2_with fail
    refine (progCheck_any _ n c p w H.out HN.out).mono ?_; rintro e w1 ⟨rfl, x1⟩; rw [← HQ.out]
    have X1 := Lib.hid x1; clear x1
    go_wp2
    exact bodyPost_ret (v := Pr (.slice none 0 0) (I x0)) (by simp [results, Try.results7, go_sem]) rfl ⟨rfl, X1.out⟩
end Go.Proofs.Ytlafiddfplhafaa
/- choose: a place among n, from a raw number. -/
namespace Go.Proofs.Ytlafiddfplhafaa
set_option linter.unusedVariables false
set_option linter.unusedSimpArgs false
open Go.RowKit
/-- choose: the raw number's place among n. -/
def chooseM (c n : Int) : Int := (if c < 0 then -(c + 1) else c) % n
theorem choose_any (c : Int) (n : Nat) (w : World) (hn : 0 < n) (hn2 : n ≤ 9223372036854775807) (hc1 : -9223372036854775808 ≤ c) (hc2 : c ≤ 9223372036854775807) :
    Calls Try.prog 23 #[I c, I n] w fun e w' => e = .returned (I (chooseM c n)) ∧ w = w' := by
  have hn0 : (0 : Int) < (n : Int) := by omega
  by_cases h : c < 0
  · have HM : Hid (-((c + 1).tmod n) = chooseM c n) := by
      unfold Hid chooseM; rw [if_pos h, ← Int.neg_tmod, Int.tmod_eq_emod_of_nonneg (by omega)]
    go_enter Try.func23, Try.ntmps23
    go_wp2
    go_ret; exact ⟨ret_int HM.out, rfl⟩
  · have HM : Hid (c % n = chooseM c n) := by unfold Hid chooseM; rw [if_neg h]
    go_enter Try.func23, Try.ntmps23
    go_wp2
    go_ret; exact ⟨ret_int HM.out, rfl⟩
end Go.Proofs.Ytlafiddfplhafaa
/- The reference's calls on programs, walked. -/
namespace Go.Proofs.Ytlafiddfplhafaa
set_option linter.unusedVariables false
set_option linter.unusedSimpArgs false
open Go.RowKit
end Go.Proofs.Ytlafiddfplhafaa
/- The reference's PartsOf and WaitsOf; play; what the begun check answers. -/
namespace Go.Proofs.Ytlafiddfplhafaa
set_option linter.unusedVariables false
set_option linter.unusedSimpArgs false
open Go.RowKit
theorem play_any (w : World) : Calls Try.prog 35 #[] w fun e w' => e = .returned (.slice (some ⟨w.heap.size, 0, none⟩) 13 13) ∧ w.alloc (.cells #[.int .i64 5, .int .i64 0, .int .i64 6, .int .i64 0, .int .i64 5, .int .i64 0, .int .i64 4, .int .i64 0, .int .i64 3, .int .i64 0, .int .i64 5, .int .i64 0, .int .i64 1, .int .i64 0, .int .i64 3, .int .i64 1, .int .i64 5, .int .i64 0, .int .i64 1, .int .i64 0, .int .i64 8, .int .i64 0, .int .i64 3, .int .i64 2, .int .i64 2, .int .i64 0] 64) = w' := by
  go_enter Try.func35, Try.ntmps35
  go_wp2
  go_ret
  exact ⟨rfl, rfl⟩
end Go.Proofs.Ytlafiddfplhafaa
