/- Play, by the program. -/
import Derived.Test.YtgohhcnmkomafaaDoorDt07
import Derived.Test.YtgohhcnmkomafaaDoorDt08
import Derived.Shelf.Strings.BuilderK
import Derived.Test.YtgohhcnmkomafaaDoorDt04
import Derived.Test.YtgohhcnmkomafaaDoorDt03
namespace Go.Proofs.YtgohhcnmkomafaaDoor
set_option linter.unusedVariables false
set_option linter.unusedSimpArgs false
set_option linter.unusedVariables false
set_option linter.unusedSimpArgs false
set_option maxRecDepth 100000
open Go.RowKit Go.Shelf
attribute [local go_sem] Oper.semAt_some
theorem prog_none_read {s : List UInt8} (h : progOfText s = none) : readT 15 14 s = none ∨ ∃ t r, readT 15 14 s = some (t, r) ∧ r ≠ [] := by
  unfold progOfText at h
  cases hr : readT 15 14 s with
  | none => exact .inl rfl
  | some q =>
    obtain ⟨t, r⟩ := q
    rw [hr] at h
    cases r with
    | nil => cases h
    | cons c r => exact .inr ⟨t, c :: r, rfl, by simp⟩
theorem prog_some_read {s : List UInt8} {t : Tr} (h : progOfText s = some t) : readT 15 14 s = some (t, []) := by
  unfold progOfText at h
  split at h
  · rename_i t' h1; injection h with h; rw [h1, h]
  · cases h
theorem dread_bad (s : List UInt8) (w : World) (hs : s.length ≤ 4096) (h : progOfText s = none) :
    Calls Tryd.prog 16 #[S s] w fun e w' => e = .returned (Pr (.slice none 0 0) (I 1)) ∧ Ext w w' := by
  rcases prog_none_read h with h | ⟨t, r, h, h0⟩
  · exact read_none s w hs h
  · exact read_more s w hs t r h h0
theorem dread_good (s : List UInt8) (w : World) (hs : s.length ≤ 4096) {t : Tr} (h : progOfText s = some t) :
    Calls Tryd.prog 16 #[S s] w fun e w' => ∃ A c, e = .returned (Pr (.slice A t.size c) (I 0)) ∧ SlN w' A t.size t.flat ∧ t.size ≤ c ∧ c ≤ maxLen ∧ Ext w w' := read_ok s w hs t (prog_some_read h)
theorem suffix_last {t : List UInt8} (h : t ≠ []) : [10].isSuffixOf t = decide (t.getLast? = some 10) := by
  rw [Bool.eq_iff_iff, decide_eq_true_eq, List.isSuffixOf_iff_suffix]
  constructor
  · rintro ⟨a, rfl⟩; simp
  · intro hl
    obtain ⟨a, b, rfl⟩ : ∃ a b, t = a ++ [b] := ⟨t.dropLast, t.getLast h, (List.dropLast_concat_getLast h).symm⟩
    simp at hl; subst hl
    exact ⟨a, rfl⟩
theorem trim_line (x : List UInt8) : Lib.trimSuffix (x ++ [10]) [10] = x := by
  unfold Lib.trimSuffix
  rw [if_pos (by unfold Lib.hasSuffix; rw [List.isSuffixOf_iff_suffix]; exact ⟨x, rfl⟩)]
  simp
set_option maxHeartbeats 4000000 in
theorem dplay_bad (s t : List UInt8) (w : World) (hs : s.length ≤ maxLen) (ht : t.length ≤ maxLen) (hE : playE s t ≠ 0) :
    Calls Tryd.prog 7 #[S s, S t] w fun e w' => e = .returned (Pr (S []) (I (playE s t))) ∧ Ext w w' := by
  unfold playE at hE ⊢
  by_cases h1 : 4096 < s.length
  · rw [if_pos h1]
    have H := Lib.hid (read_many s w h1 hs)
    clear hE hs ht h1
    go_enter Tryd.func7, Tryd.ntmps7
    go_wp2_with fail
    refine H.out.mono ?_; rintro e w1 ⟨rfl, x1⟩
    go_wp2
    go_ret2
    exact ⟨rfl, x1⟩
  rw [if_neg h1] at hE ⊢
  by_cases h2 : progOfText s = none
  · rw [if_pos h2]
    have H := Lib.hid (dread_bad s w (by omega) h2)
    clear hE hs ht h1 h2
    go_enter Tryd.func7, Tryd.ntmps7
    go_wp2_with fail
    refine H.out.mono ?_; rintro e w1 ⟨rfl, x1⟩
    go_wp2
    go_ret2
    exact ⟨rfl, x1⟩
  rw [if_neg h2] at hE ⊢
  obtain ⟨q, hq⟩ : ∃ q, progOfText s = some q := by
    cases hh : progOfText s with
    | none => exact absurd hh h2
    | some q => exact ⟨q, rfl⟩
  have H := Lib.hid (dread_good s w (by omega) hq)
  by_cases h3 : 4096 < t.length ∨ 40 < t.count 10
  · rw [if_pos h3]
    have ht' : t.length ≤ 9223372036854775807 := ht
    by_cases h4 : 4096 < t.length
    · clear hE hs ht h1 h2 h3 hq
      go_enter Tryd.func7, Tryd.ntmps7
      go_wp2_with fail
      refine H.out.mono ?_; rintro e w1 ⟨A, c, rfl, -, -, -, x1⟩
      have X1 := Lib.hid x1; clear x1
      have hgt : (decide ((((⟨t.toArray⟩ : ByteArray).size : Nat) : Int) > 4096)) = true := by show decide (((t.length : Nat) : Int) > 4096) = true; exact decide_eq_true (by omega)
      go_wp2_with fail
      go_ret2
      exact ⟨rfl, X1.out⟩
    · have h5 : 40 < t.count 10 := h3.resolve_left h4
      clear hE hs ht h1 h2 h3 hq
      go_enter Tryd.func7, Tryd.ntmps7
      go_wp2_with fail
      refine H.out.mono ?_; rintro e w1 ⟨A, c, rfl, -, -, -, x1⟩
      have X1 := Lib.hid x1; clear x1
      go_wp2_with fail
      refine (count_nl t w1).mono ?_; rintro e w' ⟨rfl, rfl⟩
      go_wp2_with fail
      go_ret2
      exact ⟨rfl, X1.out⟩
  rw [if_neg h3] at hE ⊢
  have h3a : t.length ≤ 4096 := by omega
  have h3b : t.count 10 ≤ 40 := by omega
  by_cases h6 : t ≠ [] ∧ t.getLast? ≠ some 10
  · rw [if_pos h6]
    have hsf := suffix_last h6.1
    rw [decide_eq_false h6.2] at hsf
    have HSF := Lib.hid hsf
    have hne : t.isEmpty = false := by cases t with | nil => exact absurd rfl h6.1 | cons _ _ => rfl
    clear hE hs ht h1 h2 h3 hq h6 hsf
    go_enter Tryd.func7, Tryd.ntmps7
    go_wp2_with fail
    refine H.out.mono ?_; rintro e w1 ⟨A, c, rfl, -, -, -, x1⟩
    have X1 := Lib.hid x1; clear x1
    go_wp2_with fail
    refine (count_nl t w1).mono ?_; rintro e w' ⟨rfl, rfl⟩
    go_wp2_with fail
    refine (suffix_any t [10] w1 (by omega)).mono ?_; rintro e w' ⟨rfl, rfl⟩; rw [HSF.out]
    go_wp2_with fail
    go_ret2
    exact ⟨rfl, X1.out⟩
  · rw [if_neg h6] at hE; exact absurd rfl hE
end Go.Proofs.YtgohhcnmkomafaaDoor
/- What holds between two lines of a script that is played. -/
namespace Go.Proofs.YtgohhcnmkomafaaDoor
set_option linter.unusedVariables false
set_option linter.unusedSimpArgs false
set_option maxRecDepth 100000
open Go.RowKit Go.Shelf
theorem lines_any (t : List UInt8) (w : World) : Calls Tryd.prog 19 #[S t] w fun e w' => e = .returned (.func (.func 41) #[] #[.pointer (some ⟨w.heap.size, 0, none⟩)]) ∧ w' = w.alloc (.cells #[S t] 9) := by
  have hmf := makeFunc_anyR
  go_enter Tryd.func19, Tryd.ntmps19
  go_wp2
  go_ret
  exact ⟨rfl, rfl⟩
theorem flat_pos (q : Tr) : 0 < q.size := by cases q <;> simp only [Tr.size] <;> omega
/-- Blocks whose first cells differ are two. -/
theorem ne_of_cell {w : World} {a b : Nat} {x y : Value} (h : w.cell? ⟨a, 0, none⟩ = some x) (k : w.cell? ⟨b, 0, none⟩ = some y) (hne : x ≠ y) : a ≠ b := fun e => by
  subst e; rw [h] at k; exact hne (Option.some.inj k)
theorem RestC.first {w : World} {fr : Bool} {g1 g2 n : Nat} {wc oc : Nat} {r : RestM} (h : RestC w fr (some ⟨g1, 0, none⟩) n wc (some ⟨g2, 0, none⟩) 3 oc r) (hn : 0 < n) : (∃ x, w.cell? ⟨g1, 0, none⟩ = some (Bv x)) ∧ ∃ x, w.cell? ⟨g2, 0, none⟩ = some (Bv x) := by
  constructor
  · obtain ⟨b, o, x, e, hc, -⟩ := h.waits.at_ (k := 0) hn
    injection e with e; injection e with e1 e2; subst e1; subst e2
    exact ⟨x, by simpa using hc⟩
  · obtain ⟨b, o, x, e, hc, -⟩ := h.outs.at_ (k := 0) (by omega)
    injection e with e; injection e with e1 e2; subst e1; subst e2
    exact ⟨x, by simpa using hc⟩
/-- The bytes of a builder lie in no block that begins otherwise. -/
theorem buf_ne {w : World} {B : Nat} {v : Value} {n : Nat} {bs : List UInt8} (h : w.ownsRow B BE 1 v n (Lib.byteCells bs)) (h0 : bs = [] → v = .slice none 0 0) {k : Nat} {u : Value} (hk : w.cell? ⟨k, 0, none⟩ = some u) (hu : ∀ i, u ≠ .int .u8 i) : v.ownBlock ≠ some k := fun e => by
  cases bs with
  | nil => rw [h0 rfl] at e; simp [Value.ownBlock] at e
  | cons c bs =>
    rcases h.2 with ⟨rfl, _⟩ | ⟨g, cap, cur, rfl, _, hg, _, _, _, ht⟩
    · simp [Value.ownBlock] at e
    · have e2 : g = k := Option.some.inj e
      subst e2
      have hc : w.cell? ⟨g, 0, none⟩ = cur[0]? := Lib.cell_of_heap hg 0
      rw [hk] at hc
      have h1 : (cur.toList.take (n * 1))[0]? = some (.int .u8 c.toNat) := by rw [ht]; rfl
      rw [List.getElem?_take] at h1
      split at h1
      · have h2 : cur[0]? = some (.int .u8 c.toNat) := by simpa using h1
        rw [h2] at hc
        exact hu _ (Option.some.inj hc)
      · cases h1
structure PlayI (w : World) (D V Bd SB : Nat) (PA : Option Addr) (n pc : Nat) (q : Tr) (pre : List (List UInt8)) (W : World) : Prop where
  tbl : ∃ fr p1 p2, TblW W D PA n pc q (afterL q (freshM q.size) pre) fr p1 p2
  var : Box W V 51 [.pointer (some ⟨D, 0, none⟩)]
  bld : Lib.IsBuilder BT BE Bd Bd (Lib.byteCells (playL q (freshM q.size) pre)) W
  bl0 : pre = [] → W.cell? ⟨Bd, 1, none⟩ = some (.slice none 0 0)
  str : ∃ v, Box W SB 9 [S v]
  ext : Ext w W
theorem PlayI.kept {w : World} {D V Bd SB : Nat} {PA : Option Addr} {n pc : Nat} {q : Tr} {pre : List (List UInt8)} {W W' : World} {row : Option Nat} (h : PlayI w D V Bd SB PA n pc q pre W) (hn : n = q.size) (hx : Ext w W') (hg : W.grownBy W' row)
    (hrow : ∀ r, row = some r → r = SB ∨ ∃ o : Obj, W.heap[r]? = some o ∧ o.isCells = false) (hs : ∃ v, Box W' SB 9 [S v]) (e1 : D ≠ SB) (e2 : V ≠ SB) (e3 : Bd ≠ SB) (e4 : ∀ a, PA = some a → a.block ≠ SB) : PlayI w D V Bd SB PA n pc q pre W' := by
  have hsame : ∀ k o, W.heap[k]? = some o → o.isCells = true → k ≠ SB → W'.heap[k]? = some o := fun k o hk hc hne => by
    rw [hg.block k (Array.getElem?_eq_some_iff.1 hk).1 (fun e => ?_)]
    · exact hk
    · rcases hrow k e.symm with e' | ⟨o', ho', hc'⟩
      · exact hne e'
      · rw [hk] at ho'; injection ho' with ho'; subst ho'; rw [hc] at hc'; cases hc'
  have hcell : ∀ (p : Addr) v, W.cell? p = some v → p.block ≠ SB → W'.cell? p = some v := fun p v hv hne => by
    obtain ⟨o, ho, hc⟩ := cells_of_cell hv
    exact (World.cell?_of_block ((hsame _ _ ho hc hne).trans ho.symm)).trans hv
  obtain ⟨fr, p1, p2, ht⟩ := h.tbl
  obtain ⟨v0, hv0⟩ := h.str
  have hc0 : W.cell? ⟨SB, 0, none⟩ = some (S v0) := (hv0.cell 0).trans rfl
  obtain ⟨⟨x1, f1⟩, ⟨x2, f2⟩⟩ := ht.rest.first (by rw [hn]; exact flat_pos q)
  have n1 : p1 ≠ SB := ne_of_cell f1 hc0 (by simp [S])
  have n2 : p2 ≠ SB := ne_of_cell f2 hc0 (by simp [S])
  refine ⟨⟨fr, p1, p2, hsame _ _ ht.box rfl e1, ht.rest.grown2 (row := none) (fun k o hk hkk => ?_), ⟨ht.nodes.1, fun k x hx => ?_⟩, ht.d1, ht.d2, ht.dp⟩, hsame _ _ h.var rfl e2, ?_, fun e => hcell ⟨Bd, 1, none⟩ _ (h.bl0 e) e3, hs, hx⟩
  · rcases hkk with rfl | rfl
    · obtain ⟨o', ho', hc'⟩ := cells_of_cell f1
      simp only at ho'; rw [hk] at ho'; injection ho' with ho'; subst ho'
      exact hsame _ _ hk hc' n1
    · obtain ⟨o', ho', hc'⟩ := cells_of_cell f2
      simp only at ho'; rw [hk] at ho'; injection ho' with ho'; subst ho'
      exact hsame _ _ hk hc' n2
  · obtain ⟨b, off, e, c0, c1⟩ := ht.nodes.2 k x hx
    have hb := e4 _ e
    exact ⟨b, off, e, hcell _ _ c0 hb, hcell _ _ c1 hb⟩
  · have one : ∀ p, Lib.BuilderAt BT BE Bd Bd p (Lib.byteCells (playL q (freshM q.size) pre)) W → Lib.BuilderAt BT BE Bd Bd p (Lib.byteCells (playL q (freshM q.size) pre)) W' := fun p hb => by
      obtain ⟨hB, v, hbk, hown, hne⟩ := hb
      refine ⟨hB, v, hsame _ _ hbk rfl e3, hown.kept hg ?_, hne⟩
      cases hob : v.ownBlock with
      | none => exact .inl rfl
      | some g =>
        right
        intro e
        rcases hrow g e.symm with rfl | ⟨o, ho, hc⟩
        · exact hv0.apart hown (by decide) hob
        · rcases hown.2 with ⟨rfl, _⟩ | ⟨g', cap, cur, rfl, _, hgg, _⟩
          · simp [Value.ownBlock] at hob
          · have : g' = g := Option.some.inj hob
            subst this
            rw [hgg] at ho; injection ho with ho; subst ho; cases hc
    rcases h.bld with hb | hb
    · exact .inl (one _ hb)
    · exact .inr (one _ hb)
theorem IsB.grown {W w2 : World} {D Bd : Nat} {cs : List Value} {bs : List Value} (h : Lib.IsBuilder BT BE Bd Bd bs W) (hD : Box W D 53 cs) (hg : W.grownBy w2 (some D)) (hne : Bd ≠ D) : Lib.IsBuilder BT BE Bd Bd bs w2 := by
  have one : ∀ p, Lib.BuilderAt BT BE Bd Bd p bs W → Lib.BuilderAt BT BE Bd Bd p bs w2 := fun p hb => by
    obtain ⟨hB, v, hbk, hown, hne'⟩ := hb
    exact ⟨hB, v, by rw [hg.block Bd (Array.getElem?_eq_some_iff.1 hbk).1 (fun e => hne (Option.some.inj e))]; exact hbk, hown.kept hg (.inr (hD.apart hown (by decide))), hne'⟩
  rcases h with h | h
  · exact .inl (one _ h)
  · exact .inr (one _ h)
theorem byteCells_app (a b : List UInt8) : Lib.byteCells (a ++ b) = Lib.byteCells a ++ Lib.byteCells b := by simp [Lib.byteCells]
theorem PlayI.next {w : World} {D V Bd SB : Nat} {PA : Option Addr} {n pc : Nat} {q : Tr} {pre : List (List UInt8)} {x : List UInt8} {W w2 w3 : World} (h : PlayI w D V Bd SB PA n pc q pre W) (hn : n = q.size)
    {fr : Bool} {p1 p2 : Nat} (htb : TblW w2 D PA n pc q (stepL q (afterL q (freshM q.size) pre) x).1 fr p1 p2) (hg : W.grownBy w2 (some D))
    (hb : Lib.BuilderAt BT BE Bd Bd (.pointer (some ⟨Bd, 0, none⟩)) (Lib.byteCells (playL q (freshM q.size) pre) ++ Lib.byteCells ((stepL q (afterL q (freshM q.size) pre) x).2 ++ [10])) w3) (hbel : Below Bd w2 w3) (hk : KeptB Bd w2 w3)
    (wD : w.heap.size ≤ D) (DB : D < Bd) (VB : V < Bd) (DV : D ≠ V) (SD : SB ≠ D) (SBB : SB ≠ Bd) (PB : ∀ a, PA = some a → a.block < Bd) :
    KeepsOthers W w3 ∧ KeptC SB W w3 ∧ PlayI w D V Bd SB PA n pc q (pre ++ [x]) w3 := by
  obtain ⟨v0, hv0⟩ := h.str
  have hs2 : Box w2 SB 9 [S v0] := by
    show w2.heap[SB]? = _
    rw [hg.block SB hv0.lt (fun e => SD (Option.some.inj e))]; exact hv0
  have hsz : W.heap.size ≤ w2.heap.size := hg.size
  -- the builder at w2
  obtain ⟨hBB, vb, hvb, hown⟩ : Bd ≤ Bd ∧ ∃ vb, W.cell? ⟨Bd, 1, none⟩ = some vb ∧ W.ownsRow Bd BE 1 vb (Lib.byteCells (playL q (freshM q.size) pre)).length (Lib.byteCells (playL q (freshM q.size) pre)) := by
    rcases h.bld with hb' | hb' <;>
    · obtain ⟨hB, v, hbk, hown, -⟩ := hb'
      exact ⟨hB, v, by rw [Lib.cell_of_heap hbk]; rfl, hown⟩
  obtain ⟨frW, pW1, pW2, htW⟩ := h.tbl
  have hDbox := htW.box
  have hown2 : w2.ownsRow Bd BE 1 vb (Lib.byteCells (playL q (freshM q.size) pre)).length (Lib.byteCells (playL q (freshM q.size) pre)) := hown.kept hg (.inr (hDbox.apart hown (by decide)))
  have hvb2 : w2.cell? ⟨Bd, 1, none⟩ = some vb := by
    have hl := lt_of_cell hvb
    exact (World.cell?_of_block (a := ⟨Bd, 1, none⟩) (hg.block Bd hl (fun e => by have := Option.some.inj e; omega))).trans hvb
  have hnil : playL q (freshM q.size) pre = [] → vb = .slice none 0 0 := fun e => by
    have : pre = [] := by
      cases pre with
      | nil => rfl
      | cons a b => simp [playL] at e
    have h1 := h.bl0 this
    rw [hvb] at h1; exact Option.some.inj h1
  -- what the write keeps
  have keep : ∀ (k : Nat) (u : Value), w2.cell? ⟨k, 0, none⟩ = some u → (∀ i, u ≠ .int .u8 i) → k ≠ Bd → w3.heap[k]? = w2.heap[k]? := fun k u hu hne hkb => by
    have hlt := lt_of_cell hu
    obtain ⟨o, ho⟩ : ∃ o, w2.heap[k]? = some o := ⟨_, Array.getElem?_eq_getElem hlt⟩
    rw [ho]
    refine hk k o ho hkb (fun v hv => ?_)
    rw [hvb2] at hv; obtain rfl := Option.some.inj hv
    exact buf_ne hown2 hnil hu hne
  obtain ⟨⟨x1, f1⟩, ⟨x2, f2⟩⟩ := htb.rest.first (by rw [hn]; exact flat_pos q)
  have hB2c : ∃ p, w2.cell? ⟨Bd, 0, none⟩ = some (.pointer p) := by
    have h0 : ∃ p, W.cell? ⟨Bd, 0, none⟩ = some (.pointer p) := by
      rcases h.bld with hb' | hb'
      · exact ⟨_, hb'.cell0⟩
      · exact ⟨_, hb'.cell0⟩
    obtain ⟨p, hp⟩ := h0
    have hl := lt_of_cell hp
    exact ⟨p, (World.cell?_of_block (a := ⟨Bd, 0, none⟩) (hg.block Bd hl (fun e => by have := Option.some.inj e; omega))).trans hp⟩
  obtain ⟨pb, hpb⟩ := hB2c
  have n1 : p1 ≠ Bd := ne_of_cell f1 hpb (by simp)
  have n2 : p2 ≠ Bd := ne_of_cell f2 hpb (by simp)
  have k1 := keep p1 _ f1 (by simp) n1
  have k2 := keep p2 _ f2 (by simp) n2
  have kS := keep SB _ ((hs2.cell 0).trans rfl) (by simp [S]) SBB
  have hx2 : Ext w w2 := ⟨hg.os.trans h.ext.os, hg.tape.trans h.ext.tape, hg.output.trans h.ext.output, Nat.le_trans h.ext.size hg.size, fun k hk => (hg.block k (Nat.lt_of_lt_of_le hk h.ext.size) (fun e => by have := Option.some.inj e; omega)).trans (h.ext.block k hk)⟩
  have hx3 : Ext w w3 := Below.trans (show Below w.heap.size w w2 from hx2) (Below.mono hbel (by omega))
  refine ⟨⟨Nat.le_trans hsz hbel.size, fun k o ho hc => ?_⟩, fun v hv => ?_, ⟨⟨fr, p1, p2, ?_⟩, ?_, ?_, ?_, ⟨v0, ?_⟩, hx3⟩⟩
  · have hlt := (Array.getElem?_eq_some_iff.1 ho).1
    have hkD : k ≠ D := fun e => by subst e; have := htW.box; unfold Box at this; rw [this] at ho; injection ho with ho; subst ho; cases hc
    have h2 : w2.heap[k]? = some o := by rw [hg.block k hlt (fun e => hkD (Option.some.inj e))]; exact ho
    refine hk k o h2 (fun e => ?_) (fun v hv e => ?_)
    · subst e
      obtain ⟨o', ho', hc'⟩ := cells_of_cell hpb
      simp only at ho'; rw [h2] at ho'; injection ho' with ho'; subst ho'; rw [hc] at hc'; cases hc'
    · rw [hvb2] at hv; obtain rfl := Option.some.inj hv
      rcases hown2.2 with ⟨rfl, _⟩ | ⟨g, cap, cur, rfl, _, hgg, _⟩
      · simp [Value.ownBlock] at e
      · have : g = k := Option.some.inj e
        subst this
        rw [h2] at hgg; injection hgg with hgg; subst hgg; cases hc
  · have hbk : w3.heap[SB]? = W.heap[SB]? := by rw [kS, hg.block SB hv0.lt (fun e => SD (Option.some.inj e))]
    exact ⟨(World.cell?_of_block (a := ⟨SB, 0, none⟩) hbk).trans hv, World.frozen?_of_block (a := ⟨SB, 0, none⟩) hbk⟩
  · rw [afterL_snoc]
    exact ⟨(hbel.block D DB).trans htb.box, htb.rest.grown2 (row := none) (fun k o ho hkk => by
      rcases hkk with rfl | rfl
      · rw [k1]; exact ho
      · rw [k2]; exact ho), ⟨htb.nodes.1, fun k y hy => by
        obtain ⟨b, off, e, c0, c1⟩ := htb.nodes.2 k y hy
        have hb' := hbel.block b (PB _ e)
        exact ⟨b, off, e, (World.cell?_of_block (a := ⟨b, _, none⟩) hb').trans c0, (World.cell?_of_block (a := ⟨b, _, none⟩) hb').trans c1⟩⟩, htb.d1, htb.d2, htb.dp⟩
  · show w3.heap[V]? = _
    rw [hbel.block V VB, hg.block V h.var.lt (fun e => DV (Option.some.inj e).symm)]; exact h.var
  · rw [playL_snoc, byteCells_app]; exact .inr hb
  · intro e; simp at e
  · show w3.heap[SB]? = _
    rw [kS]; exact hs2
end Go.Proofs.YtgohhcnmkomafaaDoor
/- How a play begins, and what it keeps: the world. -/
namespace Go.Proofs.YtgohhcnmkomafaaDoor
set_option linter.unusedVariables false
set_option linter.unusedSimpArgs false
set_option maxRecDepth 100000
open Go.RowKit Go.Shelf
theorem PlayI.start {w w1 w3 W : World} {A : Option Addr} {q : Tr} {c g1 g2 : Nat} {t : List UInt8} (hx : Ext w w3) (hx1 : Ext w1 w3) (sl : SlN w1 A q.size q.flat) (hs : q.size ≤ 14)
    (ho1 : w3.ownsRow w1.heap.size 4 1 (.slice (some ⟨g1, 0, none⟩) q.size q.size) q.size ((List.replicate q.size false).map Bv)) (ho2 : w3.ownsRow w1.heap.size 4 1 (.slice (some ⟨g2, 0, none⟩) 3 3) 3 (([false, false, false] : List Bool).map Bv))
    (hW : W = (((w3.alloc (.cells #[.slice A q.size c, Bv true, .slice (some ⟨g1, 0, none⟩) q.size q.size, .slice (some ⟨g2, 0, none⟩) 3 3] 53)).alloc (.cells #[.pointer (some ⟨w3.heap.size, 0, none⟩)] 51)).alloc (.cells #[.pointer none, .slice none 0 0] 57)).alloc (.cells #[S t] 9)) :
    PlayI w w3.heap.size (w3.heap.size + 1) (w3.heap.size + 1 + 1) (w3.heap.size + 1 + 1 + 1) A q.size c q [] W ∧ (∀ a, A = some a → a.block < w3.heap.size) ∧ W.cell? ⟨w3.heap.size + 1 + 1 + 1, 0, none⟩ = some (S t) ∧ W.frozen? ⟨w3.heap.size + 1 + 1 + 1, 0, none⟩ = false ∧ W.heap.size = w3.heap.size + 1 + 1 + 1 + 1 := by
  obtain ⟨wa, ha⟩ : ∃ x, x = w3.alloc (.cells #[.slice A q.size c, Bv true, .slice (some ⟨g1, 0, none⟩) q.size q.size, .slice (some ⟨g2, 0, none⟩) 3 3] 53) := ⟨_, rfl⟩
  have ba : Box wa w3.heap.size 53 [.slice A q.size c, Bv true, .slice (some ⟨g1, 0, none⟩) q.size q.size, .slice (some ⟨g2, 0, none⟩) 3 3] := by rw [ha]; exact Box.new w3 _ _
  have xa : Ext w3 wa := by rw [ha]; exact (Ext.refl _).alloc _
  have sa : wa.heap.size = w3.heap.size + 1 := by rw [ha, World.size_alloc]
  rw [← ha] at hW
  obtain ⟨wb, hb⟩ : ∃ x, x = wa.alloc (.cells #[.pointer (some ⟨w3.heap.size, 0, none⟩)] 51) := ⟨_, rfl⟩
  have bb : Box wb (w3.heap.size + 1) 51 [.pointer (some ⟨w3.heap.size, 0, none⟩)] := by rw [hb, ← sa]; exact Box.new wa _ _
  have xb : Ext wa wb := by rw [hb]; exact (Ext.refl _).alloc _
  have sb : wb.heap.size = w3.heap.size + 1 + 1 := by rw [hb, World.size_alloc, sa]
  rw [← hb] at hW
  obtain ⟨wc, hc⟩ : ∃ x, x = wb.alloc (.cells #[.pointer none, .slice none 0 0] 57) := ⟨_, rfl⟩
  have bc : Box wc (w3.heap.size + 1 + 1) 57 [.pointer none, .slice none 0 0] := by rw [hc, ← sb]; exact Box.new wb _ _
  have xc : Ext wb wc := by rw [hc]; exact (Ext.refl _).alloc _
  have sc : wc.heap.size = w3.heap.size + 1 + 1 + 1 := by rw [hc, World.size_alloc, sb]
  rw [← hc] at hW
  have bd : Box W (w3.heap.size + 1 + 1 + 1) 9 [S t] := by rw [hW, ← sc]; exact Box.new wc _ _
  have xd : Ext wc W := by rw [hW]; exact (Ext.refl _).alloc _
  have sd : W.heap.size = w3.heap.size + 1 + 1 + 1 + 1 := by rw [hW, World.size_alloc, sc]
  clear ha hb hc hW
  have xW : Ext w3 W := ((xa.trans xb).trans xc).trans xd
  have hrr : RestC w3 true (some ⟨g1, 0, none⟩) q.size q.size (some ⟨g2, 0, none⟩) 3 3 (freshM q.size) := by
    obtain ⟨A1, c1, f1, -, -, s1⟩ := own_sl ho1
    obtain ⟨A2, c2, f2, -, -, s2⟩ := own_sl ho2
    injection f1 with f1 _ _; subst f1
    injection f2 with f2 _ _; subst f2
    exact ⟨rfl, s1, s2, ⟨Nat.le_refl _, by unfold maxLen; omega⟩, ⟨Nat.le_refl _, by unfold maxLen; omega⟩⟩
  obtain ⟨⟨x1, c1⟩, ⟨x2, c2⟩⟩ := hrr.first (flat_pos q)
  have l1 : g1 < w3.heap.size := lt_of_cell c1
  have l2 : g2 < w3.heap.size := lt_of_cell c2
  have hA : ∀ a, A = some a → a.block < w3.heap.size := fun a e => by
    cases hf : q.flat with
    | nil => have := flat_pos q; rw [← flat_size, hf] at this; simp at this
    | cons y ys =>
      obtain ⟨b, off, e', k0, -⟩ := sl.2 0 y (by rw [hf]; rfl)
      rw [e'] at e; injection e with e; subst e
      exact Nat.lt_of_lt_of_le (lt_of_cell k0) hx1.size
  refine ⟨⟨⟨true, g1, g2, ((ba.ext xb).ext xc).ext xd, hrr.keep xW.keeps, sl.keep (hx1.trans xW).keeps, by omega, by omega, fun a e => by have := hA a e; omega⟩, (bb.ext xc).ext xd, ?_, fun _ => ?_, ⟨_, bd⟩, hx.trans xW⟩, hA, (bd.cell 0).trans rfl, bd.free 0, sd⟩
  · exact .inl ⟨Nat.le_refl _, .slice none 0 0, bc.ext xd, World.ownsRow_nil _ _ _ _, by simp [Value.ownBlock]⟩
  · exact ((bc.ext xd).cell 1).trans rfl
section
variable {w : World} {D V Bd SB : Nat} {PA : Option Addr} {n pc : Nat} {q : Tr} {pre : List (List UInt8)} {W : World}
theorem PlayI.setS (h : PlayI w D V Bd SB PA n pc q pre W) (hn : n = q.size) (hS : w.heap.size ≤ SB) (e1 : D ≠ SB) (e2 : V ≠ SB) (e3 : Bd ≠ SB) (e4 : ∀ a, PA = some a → a.block ≠ SB) (v : List UInt8) :
    PlayI w D V Bd SB PA n pc q pre (W.setCell ⟨SB, 0, none⟩ (S v)) := by
  obtain ⟨v0, hv0⟩ := h.str
  exact h.kept hn (h.ext.setCell (p := ⟨SB, 0, none⟩) hS _) (grown_set _ SB 0 _) (fun r e => .inl (Option.some.inj e).symm) ⟨v, hv0.set 0 (S v)⟩ e1 e2 e3 e4
theorem PlayI.drew (h : PlayI w D V Bd SB PA n pc q pre W) (hn : n = q.size) (e1 : D ≠ SB) (e2 : V ≠ SB) (e3 : Bd ≠ SB) (e4 : ∀ a, PA = some a → a.block ≠ SB) : PlayI w D V Bd SB PA n pc q pre W.drew :=
  h.kept hn h.ext.drew (row := none) ((Ext.refl W).drew.grown _) (fun r e => by cases e) h.str e1 e2 e3 e4
end
theorem PlayI.ownFrom {w : World} {D V Bd SB : Nat} {PA : Option Addr} {n pc : Nat} {q : Tr} (hn : n = q.size) (e1 : D ≠ SB) (e2 : V ≠ SB) (e3 : Bd ≠ SB) (e4 : ∀ a, PA = some a → a.block ≠ SB) {B : Nat} (hB : w.heap.size ≤ B) :
    OwnFrom B (fun pre W => PlayI w D V Bd SB PA n pc q pre W) := fun pre W W' row h hg hr => by
  obtain ⟨v0, hv0⟩ := h.str
  refine h.kept hn (Below.grown h.ext hg h.ext.size (fun k e => Nat.le_trans hB (hr k e).1)) hg (fun r e => .inr (hr r e).2) ⟨v0, ?_⟩ e1 e2 e3 e4
  show W'.heap[SB]? = _
  rw [hg.block SB hv0.lt (fun e => ?_)]
  · exact hv0
  · obtain ⟨o, ho, hc⟩ := (hr SB e.symm).2
    unfold Box at hv0; rw [hv0] at ho; injection ho with ho; subst ho; cases hc
theorem str_kept (B b : Nat) (l : List UInt8) (w : World) (h : Lib.IsBuilder BT BE B b (Lib.byteCells l) w) (hBw : B ≤ w.heap.size) :
    Calls Tryd.prog 23 #[.pointer (some ⟨b, 0, none⟩)] w fun e w' => e = .returned (S l) ∧ Below B w w' ∧ Lib.OthersKept BE (some b) w w' :=
  (Any.Builder_String_any_k Tryd.lays169 Tryd.Builder_Extra_169 B b l w (Lib.IsBuilderF.of h) hBw).mono (fun e w' h => ⟨h.1, h.2.2.1, h.2.2.2⟩)
end Go.Proofs.YtgohhcnmkomafaaDoor
/- Play of a good script, by the program. -/
namespace Go.Proofs.YtgohhcnmkomafaaDoor
set_option linter.unusedVariables false
set_option linter.unusedSimpArgs false
set_option maxRecDepth 100000
open Go.RowKit Go.Shelf
attribute [local go_sem] Oper.semAt_some
set_option maxHeartbeats 8000000 in
theorem dplay_in (s t : List UInt8) (q : Tr) (m : Int) (w : World) (hm : w.cell? ⟨0, 0, none⟩ = some (.int .i64 m)) (hs : s.length ≤ 4096) (hq : progOfText s = some q) (h3a : t.length ≤ 4096) (h3b : t.count 10 ≤ 40) (h6 : t = [] ∨ t.getLast? = some 10) :
    CallsIn Fence.wide 9 Tryd.prog 7 #[S s, S t] w fun e w' => e = .returned (Pr (S (playL q (freshM q.size) (linesFrom [] t))) (I 0)) ∧ Ext w w' := by
  obtain ⟨-, ok, hg, hsz⟩ := progOf_some hq
  have H := Lib.hid (dread_good s w hs hq)
  have HML := Lib.hid hm; have HOK := Lib.hid ok; have HG := Lib.hid hg; have HS := Lib.hid hsz; have HEND := Lib.hid h6
  clear hm ok hg hsz hq hs h6
  refine callsIn_of_wp_marks Tryd.func7 rfl trivial ?_ rfl
  simp only [Tryd.ntmps7, List.size_toArray, List.length_cons, List.length_nil, Nat.reduceAdd, Nat.reduceSub, Array.replicate_succ, Array.replicate_zero, List.push_toArray, List.append_toArray, List.nil_append, List.cons_append]
  gi_wp2_with fail
  refine ⟨trivial, (callsIn_wide.2 H.out).mono ?_⟩; rintro e w1 ⟨A, c, rfl, sl, k1, k2, x1⟩
  have SL := Lib.hid sl; have X1 := Lib.hid x1; have K1 := Lib.hid k1; have K2 := Lib.hid k2
  clear sl x1 k1 k2 H
  gi_wp2_with fail
  refine ⟨trivial, (callsIn_wide.2 (count_nl t w1)).mono ?_⟩; rintro e w' ⟨rfl, rfl⟩
  have hemp : t.isEmpty = true ∨ (t.isEmpty = false ∧ [10].isSuffixOf t = true) := by
    cases t with
    | nil => exact .inl rfl
    | cons a b =>
      right
      refine ⟨rfl, ?_⟩
      rw [suffix_last (by simp), decide_eq_true_eq]
      rcases HEND.out with h | h
      · cases h
      · exact h
  have hmx : Tryd.prog.follows .mixedOrders = true := by kernel_rfl
  rcases hemp with hemp | ⟨hemp, hsf⟩
  · gi_wp2_with fail
    refine ⟨trivial, ?_⟩
    gi_wp2_with fail
    refine ⟨trivial, (callsIn_wide.2 (fresh_any A q.size c w1 HS.out)).mono ?_⟩; rintro e w3 ⟨g1, g2, rfl, hg1, hg2, hgn, ho1, ho2, x3⟩
    have STT := Lib.hid (PlayI.start (c := c) (t := t) (X1.out.trans x3) x3 SL.out HS.out ho1 ho2 rfl)
    have HX13 := Lib.hid x3; clear hg1 hg2 hgn ho1 ho2 x3
    gi_wp2_with fail
    refine ⟨trivial, (callsIn_wide.2 (lines_any t _)).mono ?_⟩; rintro e w5 ⟨rfl, h5⟩
    rw [World.size_alloc, World.size_alloc, World.size_alloc]
    obtain ⟨h0, hPA, hc0, hf0, hsz⟩ := STT.out
    simp only [S] at h5
    rw [← h5] at h0 hc0 hf0 hsz
    clear h5 STT
    obtain ⟨D, hD⟩ : ∃ D, D = w3.heap.size := ⟨_, rfl⟩
    rw [← hD] at h0 hPA hc0 hf0 hsz ⊢
    have hwD : w.heap.size ≤ D := by rw [hD]; exact Nat.le_trans X1.out.size HX13.out.size
    clear hD
    gi_wp2
    refine wpIn_rangeFunc_cell (by omega) (gf := 41) (lb := #[.pointer (some ⟨D + 1 + 1 + 1, 0, none⟩)]) rfl (enters_of Tryd.func41 (by kernel_rfl) rfl)
      (encs := fun x : List UInt8 => #[S (x ++ [10])]) (fun _ => rfl) (D + 1 + 1 + 1) (by omega) (S t) hc0 hf0 (fun x => (10 : UInt8) ∉ x ∧ x.length ≤ 4096) (linesFrom [] t)
      (fun l J W hJs hJd hY hc hf hJ => lines_it 8 l (D + 1 + 1 + 1) (by omega) J t h3a HEND.out hJs hJd hY W hc hf hJ)
      (fun pre W => PlayI w D (D + 1) (D + 1 + 1) (D + 1 + 1 + 1) A q.size c q pre W)
      (PlayI.ownFrom rfl (by omega) (by omega) (by omega) (fun a e => by have := hPA a e; omega) (by omega))
      (fun pre W v u hI _ => hI.setS rfl (by omega) (by omega) (by omega) (by omega) (fun a e => by have := hPA a e; omega) v)
      (fun pre W hI => hI.drew rfl (by omega) (by omega) (by omega) (fun a e => by have := hPA a e; omega)) h0 (fun x => { tmps := #[S s, S t, undef, undef, .string ⟨#[]⟩, .int .i64 0, .slice A q.size c, I 0, .pointer (some ⟨D + 1, 0, none⟩), .pointer (some ⟨D + 1 + 1, 0, none⟩), S (x ++ [10]), Pr (.slice A q.size c) (I 0), S s, Pr (.slice A q.size c) (I 0), .slice A q.size c, I 0, I 0, .bool false, undef, S t, .int .i64 t.length, .bool (decide (4096 < (t.length : Int))), .bool (decide (4096 < (t.length : Int))), S t, I (List.count 10 t), .bool (decide (40 < (List.count 10 t : Int))), .bool (decide (4096 < (t.length : Int)) || decide (40 < (List.count 10 t : Int))), S t, .bool false, .bool false, undef, undef, undef, .bool false, .slice A q.size c, .slice A q.size c, .agg #[Bv true, .slice (some ⟨g1, 0, none⟩) q.size q.size, .slice (some ⟨g2, 0, none⟩) 3 3], .agg #[.slice A q.size c, Bv true, .slice (some ⟨g1, 0, none⟩) q.size q.size, .slice (some ⟨g2, 0, none⟩) 3 3], .pointer (some ⟨D, 0, none⟩), S t, .func (.func 41) #[] #[.pointer (some ⟨D + 1 + 1 + 1, 0, none⟩)], S (x ++ [10]), undef, undef, undef, undef, undef, undef, undef], defers := [] }) ?assign ?body ?done
    case assign =>
      intro l x W K hK
      gi_wp2
      exact hK
    case body =>
      intro l pre x W hI hx hpl
      have HI := Lib.hid hI; have HX := Lib.hid hx
      clear h0 hI hx hc0 hf0 hsz
      obtain ⟨fr, p1, p2, ht⟩ := HI.out.tbl
      have hcv : W.cell? ⟨D + 1, 0, none⟩ = some (.pointer (some ⟨D, 0, none⟩)) := (HI.out.var.cell 0).trans rfl
      have HT := Lib.hid ht
      clear ht
      have f14 : Fence.wide.fn 22 := trivial
      have f13 : Fence.wide.fn 21 := trivial
      have f12 : Fence.wide.fn 20 := trivial
      have hbig : (Lib.byteCells (playL q (freshM q.size) pre)).length + ((stepL q (afterL q (freshM q.size) pre) x).2 ++ [10]).length ≤ 140737488355328 := by
        have h1 := playL_len HOK.out HG.out HS.out pre _ (.start q)
        have h2 := stepL_len HS.out (RestOK.after HOK.out HG.out pre _ (.start q)).wl x
        simp only [Lib.byteCells, List.length_map, List.length_append, List.length_singleton]
        omega
      have hLN := dline_any D A q.size c q (afterL q (freshM q.size) pre) fr p1 p2 x m W.drew (HT.out.ext (Ext.refl W).drew) ((HI.out.ext.drew).keeps _ _ HML.out) HOK.out HG.out HS.out (RestOK.after HOK.out HG.out pre _ (.start q)) HX.out.2
      have hWS : ∀ w2, W.grownBy w2 (some D) → Calls Tryd.prog 20 #[.pointer (some ⟨D + 1 + 1, 0, none⟩), S ((stepL q (afterL q (freshM q.size) pre) x).2 ++ [10])] w2 _ := fun w2 hg2 =>
        wstr_any (D + 1 + 1) (D + 1 + 1) (Lib.byteCells (playL q (freshM q.size) pre)) ((stepL q (afterL q (freshM q.size) pre) x).2 ++ [10]) w2 (IsB.grown HI.out.bld HT.out.box hg2 (by omega)) hbig (by
          have h1 : D + 1 + 1 < W.heap.size := by
            rcases HI.out.bld with hb | hb
            · exact lt_of_cell hb.cell0
            · exact lt_of_cell hb.cell0
          have := hg2.size; omega)
      obtain ⟨g, hgs⟩ : ∃ g, g = (stepL q (afterL q (freshM q.size) pre) x).2 := ⟨_, rfl⟩
      rw [← hgs] at hWS hbig
      have HGS := Lib.hid hgs
      have HLN := Lib.hid hLN; have HWS := Lib.hid hWS
      have hap : (⟨g.toArray⟩ : ByteArray) ++ ⟨#[10]⟩ = ⟨(g ++ [10]).toArray⟩ := str_app g [10]
      have hgl : ¬ (9223372036854775807 < g.length + 1) := by
        have : g.length + 1 ≤ 140737488355328 := by simp only [List.length_append, List.length_singleton] at hbig; omega
        omega
      clear hgs hLN hWS hbig
      dsimp only
      gi_wp2_with fail
      gi_region_with_o (first
        | (gi_at_call 22; (with_reducible refine (CallsIn.inRound l (callsIn_wide.2 (trim_any (x ++ [10]) [10] _ ?hl))).mono ?_)
           case hl => simp; have := HX.out.2; omega
           rintro e w' ⟨rfl, rfl⟩; rw [trim_line])
        | (gi_at_call 21; (with_reducible refine (CallsIn.inRound l (callsIn_wide.2 HLN.out)).mono ?_)
           rintro e w2 ⟨fr', r1, r2, rfl, htb, hgw⟩
           rw [← HGS.out]
           have HTB := Lib.hid htb; have HGW := Lib.hid (grown_trans ((Ext.refl W).drew.grown (some D)) hgw)
           clear htb hgw)
        | (gi_at_call 20; (with_reducible refine (CallsIn.inRound l (callsIn_wide.2 (HWS.out w2 HGW.out))).mono ?_)
           rintro e w3' ⟨rfl, hb3, hbel, hkb⟩
           have HB3 := Lib.hid hb3; have HBEL := Lib.hid hbel; have HKB := Lib.hid hkb
           clear hb3 hbel hkb))
      all_goals gi_wp2
      all_goals exact HI.out.next rfl HTB.out HGW.out (by rw [← HGS.out]; exact HB3.out) HBEL.out HKB.out hwD (by omega) (by omega) (by omega) (by omega) (by omega) (fun a e => by have := hPA a e; omega)
    case done =>
      intro Dd W hDd hI hK
      have hbl := hI.bld
      have hsz' : w5.heap.size ≤ W.heap.size := by have := (Array.getElem?_eq_some_iff.1 hK).1; omega
      have HI := Lib.hid hI
      clear hI h0 hc0 hf0
      dsimp only
      gi_wp2_with fail
      refine ⟨trivial, (callsIn_wide.2 (str_kept (D + 1 + 1) (D + 1 + 1) _ W hbl (by omega))).mono ?_⟩; rintro e W3 ⟨rfl, hbw, hok⟩
      have hK3 : W3.heap[Dd]? = some (.deferred (some [])) := hok Dd _ hK (fun e => by have := Option.some.inj e; omega) (fun c fz e => by cases e)
      have HX3 := Lib.hid (Below.trans HI.out.ext (Below.mono hbw (by omega)))
      clear hbw hok hK
      gi_wp2
      refine ⟨by simp, .inl ⟨_, _, rfl, run_takeDeferred hK3, ?_⟩⟩
      refine ⟨Pr (S (playL q (freshM q.size) (linesFrom [] t))) (I 0), ?_, rfl, HX3.out.trans (belowK_b (w := w) (Nat.le_refl _) W3 Dd _ _ (by omega) hK3 rfl rfl)⟩
      simp [results, Tryd.f7, go_sem]
  · have HSF := Lib.hid hsf
    clear hsf
    gi_wp2_with fail
    refine ⟨trivial, (callsIn_wide.2 (suffix_any t [10] w1 (by omega))).mono ?_⟩; rintro e w' ⟨rfl, rfl⟩; rw [HSF.out]
    gi_wp2_with fail
    refine ⟨trivial, (callsIn_wide.2 (fresh_any A q.size c w1 HS.out)).mono ?_⟩; rintro e w3 ⟨g1, g2, rfl, hg1, hg2, hgn, ho1, ho2, x3⟩
    have STT := Lib.hid (PlayI.start (c := c) (t := t) (X1.out.trans x3) x3 SL.out HS.out ho1 ho2 rfl)
    have HX13 := Lib.hid x3; clear hg1 hg2 hgn ho1 ho2 x3
    gi_wp2_with fail
    refine ⟨trivial, (callsIn_wide.2 (lines_any t _)).mono ?_⟩; rintro e w5 ⟨rfl, h5⟩
    rw [World.size_alloc, World.size_alloc, World.size_alloc]
    obtain ⟨h0, hPA, hc0, hf0, hsz⟩ := STT.out
    simp only [S] at h5
    rw [← h5] at h0 hc0 hf0 hsz
    clear h5 STT
    obtain ⟨D, hD⟩ : ∃ D, D = w3.heap.size := ⟨_, rfl⟩
    rw [← hD] at h0 hPA hc0 hf0 hsz ⊢
    have hwD : w.heap.size ≤ D := by rw [hD]; exact Nat.le_trans X1.out.size HX13.out.size
    clear hD
    gi_wp2
    refine wpIn_rangeFunc_cell (by omega) (gf := 41) (lb := #[.pointer (some ⟨D + 1 + 1 + 1, 0, none⟩)]) rfl (enters_of Tryd.func41 (by kernel_rfl) rfl)
      (encs := fun x : List UInt8 => #[S (x ++ [10])]) (fun _ => rfl) (D + 1 + 1 + 1) (by omega) (S t) hc0 hf0 (fun x => (10 : UInt8) ∉ x ∧ x.length ≤ 4096) (linesFrom [] t)
      (fun l J W hJs hJd hY hc hf hJ => lines_it 8 l (D + 1 + 1 + 1) (by omega) J t h3a HEND.out hJs hJd hY W hc hf hJ)
      (fun pre W => PlayI w D (D + 1) (D + 1 + 1) (D + 1 + 1 + 1) A q.size c q pre W)
      (PlayI.ownFrom rfl (by omega) (by omega) (by omega) (fun a e => by have := hPA a e; omega) (by omega))
      (fun pre W v u hI _ => hI.setS rfl (by omega) (by omega) (by omega) (by omega) (fun a e => by have := hPA a e; omega) v)
      (fun pre W hI => hI.drew rfl (by omega) (by omega) (by omega) (fun a e => by have := hPA a e; omega)) h0 (fun x => { tmps := #[S s, S t, undef, undef, .string ⟨#[]⟩, .int .i64 0, .slice A q.size c, I 0, .pointer (some ⟨D + 1, 0, none⟩), .pointer (some ⟨D + 1 + 1, 0, none⟩), S (x ++ [10]), Pr (.slice A q.size c) (I 0), S s, Pr (.slice A q.size c) (I 0), .slice A q.size c, I 0, I 0, .bool false, undef, S t, .int .i64 t.length, .bool (decide (4096 < (t.length : Int))), .bool (decide (4096 < (t.length : Int))), S t, I (List.count 10 t), .bool (decide (40 < (List.count 10 t : Int))), .bool (decide (4096 < (t.length : Int)) || decide (40 < (List.count 10 t : Int))), S t, .bool true, .bool true, S t, .bool true, .bool false, .bool false, .slice A q.size c, .slice A q.size c, .agg #[Bv true, .slice (some ⟨g1, 0, none⟩) q.size q.size, .slice (some ⟨g2, 0, none⟩) 3 3], .agg #[.slice A q.size c, Bv true, .slice (some ⟨g1, 0, none⟩) q.size q.size, .slice (some ⟨g2, 0, none⟩) 3 3], .pointer (some ⟨D, 0, none⟩), S t, .func (.func 41) #[] #[.pointer (some ⟨D + 1 + 1 + 1, 0, none⟩)], S (x ++ [10]), undef, undef, undef, undef, undef, undef, undef], defers := [] }) ?assign ?body ?done
    case assign =>
      intro l x W K hK
      gi_wp2
      exact hK
    case body =>
      intro l pre x W hI hx hpl
      have HI := Lib.hid hI; have HX := Lib.hid hx
      clear h0 hI hx hc0 hf0 hsz
      obtain ⟨fr, p1, p2, ht⟩ := HI.out.tbl
      have hcv : W.cell? ⟨D + 1, 0, none⟩ = some (.pointer (some ⟨D, 0, none⟩)) := (HI.out.var.cell 0).trans rfl
      have HT := Lib.hid ht
      clear ht
      have f14 : Fence.wide.fn 22 := trivial
      have f13 : Fence.wide.fn 21 := trivial
      have f12 : Fence.wide.fn 20 := trivial
      have hbig : (Lib.byteCells (playL q (freshM q.size) pre)).length + ((stepL q (afterL q (freshM q.size) pre) x).2 ++ [10]).length ≤ 140737488355328 := by
        have h1 := playL_len HOK.out HG.out HS.out pre _ (.start q)
        have h2 := stepL_len HS.out (RestOK.after HOK.out HG.out pre _ (.start q)).wl x
        simp only [Lib.byteCells, List.length_map, List.length_append, List.length_singleton]
        omega
      have hLN := dline_any D A q.size c q (afterL q (freshM q.size) pre) fr p1 p2 x m W.drew (HT.out.ext (Ext.refl W).drew) ((HI.out.ext.drew).keeps _ _ HML.out) HOK.out HG.out HS.out (RestOK.after HOK.out HG.out pre _ (.start q)) HX.out.2
      have hWS : ∀ w2, W.grownBy w2 (some D) → Calls Tryd.prog 20 #[.pointer (some ⟨D + 1 + 1, 0, none⟩), S ((stepL q (afterL q (freshM q.size) pre) x).2 ++ [10])] w2 _ := fun w2 hg2 =>
        wstr_any (D + 1 + 1) (D + 1 + 1) (Lib.byteCells (playL q (freshM q.size) pre)) ((stepL q (afterL q (freshM q.size) pre) x).2 ++ [10]) w2 (IsB.grown HI.out.bld HT.out.box hg2 (by omega)) hbig (by
          have h1 : D + 1 + 1 < W.heap.size := by
            rcases HI.out.bld with hb | hb
            · exact lt_of_cell hb.cell0
            · exact lt_of_cell hb.cell0
          have := hg2.size; omega)
      obtain ⟨g, hgs⟩ : ∃ g, g = (stepL q (afterL q (freshM q.size) pre) x).2 := ⟨_, rfl⟩
      rw [← hgs] at hWS hbig
      have HGS := Lib.hid hgs
      have HLN := Lib.hid hLN; have HWS := Lib.hid hWS
      have hap : (⟨g.toArray⟩ : ByteArray) ++ ⟨#[10]⟩ = ⟨(g ++ [10]).toArray⟩ := str_app g [10]
      have hgl : ¬ (9223372036854775807 < g.length + 1) := by
        have : g.length + 1 ≤ 140737488355328 := by simp only [List.length_append, List.length_singleton] at hbig; omega
        omega
      clear hgs hLN hWS hbig
      dsimp only
      gi_wp2_with fail
      gi_region_with_o (first
        | (gi_at_call 22; (with_reducible refine (CallsIn.inRound l (callsIn_wide.2 (trim_any (x ++ [10]) [10] _ ?hl))).mono ?_)
           case hl => simp; have := HX.out.2; omega
           rintro e w' ⟨rfl, rfl⟩; rw [trim_line])
        | (gi_at_call 21; (with_reducible refine (CallsIn.inRound l (callsIn_wide.2 HLN.out)).mono ?_)
           rintro e w2 ⟨fr', r1, r2, rfl, htb, hgw⟩
           rw [← HGS.out]
           have HTB := Lib.hid htb; have HGW := Lib.hid (grown_trans ((Ext.refl W).drew.grown (some D)) hgw)
           clear htb hgw)
        | (gi_at_call 20; (with_reducible refine (CallsIn.inRound l (callsIn_wide.2 (HWS.out w2 HGW.out))).mono ?_)
           rintro e w3' ⟨rfl, hb3, hbel, hkb⟩
           have HB3 := Lib.hid hb3; have HBEL := Lib.hid hbel; have HKB := Lib.hid hkb
           clear hb3 hbel hkb))
      all_goals gi_wp2
      all_goals exact HI.out.next rfl HTB.out HGW.out (by rw [← HGS.out]; exact HB3.out) HBEL.out HKB.out hwD (by omega) (by omega) (by omega) (by omega) (by omega) (fun a e => by have := hPA a e; omega)
    case done =>
      intro Dd W hDd hI hK
      have hbl := hI.bld
      have hsz' : w5.heap.size ≤ W.heap.size := by have := (Array.getElem?_eq_some_iff.1 hK).1; omega
      have HI := Lib.hid hI
      clear hI h0 hc0 hf0
      dsimp only
      gi_wp2_with fail
      refine ⟨trivial, (callsIn_wide.2 (str_kept (D + 1 + 1) (D + 1 + 1) _ W hbl (by omega))).mono ?_⟩; rintro e W3 ⟨rfl, hbw, hok⟩
      have hK3 : W3.heap[Dd]? = some (.deferred (some [])) := hok Dd _ hK (fun e => by have := Option.some.inj e; omega) (fun c fz e => by cases e)
      have HX3 := Lib.hid (Below.trans HI.out.ext (Below.mono hbw (by omega)))
      clear hbw hok hK
      gi_wp2
      refine ⟨by simp, .inl ⟨_, _, rfl, run_takeDeferred hK3, ?_⟩⟩
      refine ⟨Pr (S (playL q (freshM q.size) (linesFrom [] t))) (I 0), ?_, rfl, HX3.out.trans (belowK_b (w := w) (Nat.le_refl _) W3 Dd _ _ (by omega) hK3 rfl rfl)⟩
      simp [results, Tryd.f7, go_sem]
theorem dplay_any (s t : List UInt8) (m : Int) (w : World) (hm : w.cell? ⟨0, 0, none⟩ = some (.int .i64 m)) (hs : s.length ≤ maxLen) (ht : t.length ≤ maxLen) :
    Calls Tryd.prog 7 #[S s, S t] w fun e w' => e = .returned (Pr (S (playV s t)) (I (playE s t))) ∧ Ext w w' := by
  by_cases hE : playE s t = 0
  · have h := hE
    unfold playE at h
    have h1 : ¬ 4096 < s.length := fun c => by rw [if_pos c] at h; cases h
    rw [if_neg h1] at h
    obtain ⟨q, hq⟩ : ∃ q, progOfText s = some q := by
      cases hp : progOfText s with
      | none => rw [hp] at h; simp at h
      | some q => exact ⟨q, rfl⟩
    rw [if_neg (by rw [hq]; simp)] at h
    have h3 : ¬ (4096 < t.length ∨ 40 < t.count 10) := fun c => by rw [if_pos c] at h; cases h
    rw [if_neg h3] at h
    have h6 : ¬ (t ≠ [] ∧ t.getLast? ≠ some 10) := fun c => by rw [if_pos c] at h; cases h
    have hv : playV s t = playL q (freshM q.size) (linesFrom [] t) := by unfold playV; rw [hq]; simp only []; rw [if_pos hE]
    rw [hv, hE]
    refine callsIn_wide.1 (dplay_in s t q m w hm (by omega) hq (by omega) (by omega) ?_)
    by_cases ht0 : t = []
    · exact .inl ht0
    · exact .inr (Classical.byContradiction fun hc => h6 ⟨ht0, hc⟩)
  · have hv : playV s t = [] := by
      unfold playV
      cases progOfText s with
      | none => rfl
      | some q => simp only []; rw [if_neg hE]
    rw [hv]
    exact dplay_bad s t w hs ht hE
end Go.Proofs.YtgohhcnmkomafaaDoor
/- What the begun check of the desk answers. -/
namespace Go.Proofs.YtgohhcnmkomafaaDoor
set_option linter.unusedVariables false
set_option linter.unusedSimpArgs false
set_option maxRecDepth 100000
open Go.RowKit
def playTD : Tr := .two ⟨5, 0⟩ (.two ⟨6, 0⟩ (.two ⟨5, 0⟩ (.leaf ⟨4, 0⟩) (.leaf ⟨3, 0⟩)) (.two ⟨5, 0⟩ (.leaf ⟨1, 0⟩) (.leaf ⟨3, 1⟩))) (.two ⟨5, 0⟩ (.leaf ⟨1, 0⟩) (.two ⟨8, 0⟩ (.leaf ⟨3, 2⟩) (.leaf ⟨2, 0⟩)))
theorem playTD_flat : playTD.flat = playM := rfl
theorem playTD_ok : playTD.ok := by simp [playTD, Tr.ok, two]
theorem playTD_good : ∀ x ∈ playTD.flat, goodN x := by
  rw [playTD_flat]; intro x hx
  simp only [playM, List.mem_cons, List.not_mem_nil, or_false] at hx
  rcases hx with rfl | rfl | rfl | rfl | rfl | rfl | rfl | rfl | rfl | rfl | rfl | rfl | rfl <;> exact ⟨rfl, rfl⟩
def playSD : List UInt8 := textT playTD
theorem playSD_len : playSD.length ≤ 4096 := by decide
theorem playSD_prog : progOfText playSD = some playTD := progOf_text playTD_ok playTD_good (by decide)
theorem play_anyD (w : World) : Calls Tryd.prog 15 #[] w fun e w' => e = .returned (.slice (some ⟨w.heap.size, 0, none⟩) 13 13) ∧ w.alloc (.cells #[.int .i64 5, .int .i64 0, .int .i64 6, .int .i64 0, .int .i64 5, .int .i64 0, .int .i64 4, .int .i64 0, .int .i64 3, .int .i64 0, .int .i64 5, .int .i64 0, .int .i64 1, .int .i64 0, .int .i64 3, .int .i64 1, .int .i64 5, .int .i64 0, .int .i64 1, .int .i64 0, .int .i64 8, .int .i64 0, .int .i64 3, .int .i64 2, .int .i64 2, .int .i64 0] 70) = w' := by
  go_enter Tryd.func15, Tryd.ntmps15
  go_wp2
  go_ret
  exact ⟨rfl, rfl⟩
theorem play_anyD' (w : World) : Calls Tryd.prog 15 #[] w fun e w' => e = .returned (.slice (some ⟨w.heap.size, 0, none⟩) 13 13) ∧ SlN w' (some ⟨w.heap.size, 0, none⟩) 13 playTD.flat ∧ Ext w w' := by
  refine (play_anyD w).mono ?_; rintro e w1 ⟨rfl, rfl⟩
  exact ⟨rfl, by exact Sl2.newAt PK PS w _ playM _ _ rfl rfl, (Ext.refl _).alloc _⟩
def scriptD : List UInt8 := [114, 101, 115, 116, 10, 116, 105, 99, 107, 10, 114, 101, 115, 116, 10, 116, 105, 99, 107, 32, 120, 10, 114, 101, 115, 116, 10, 116, 105, 99, 107, 32, 121, 32, 122, 10, 116, 105, 99, 107, 32, 120, 32, 121, 32, 122, 10, 114, 101, 115, 116, 10, 97, 103, 97, 105, 110, 10, 116, 105, 99, 107, 32, 122, 32, 121, 10, 116, 105, 99, 107, 32, 120, 10]
def saidD : List UInt8 := [45, 10, 45, 10, 51, 32, 54, 10, 65, 32, 66, 10, 57, 10, 67, 32, 111, 118, 101, 114, 10, 45, 10, 45, 10, 111, 107, 10, 101, 114, 114, 111, 114, 32, 49, 10, 45, 10]
theorem saidD_is : playL playTD (freshM playTD.size) (linesFrom [] scriptD) = saidD := by decide +kernel
theorem begunE : playE playSD scriptD = 0 := by
  unfold playE
  rw [if_neg (by have := playSD_len; omega), if_neg (by rw [playSD_prog]; simp), if_neg (by decide), if_neg (by decide)]
theorem begunV : playV playSD scriptD = saidD := by
  unfold playV; rw [playSD_prog]; simp only []; rw [if_pos begunE, saidD_is]
set_option maxHeartbeats 4000000 in
theorem deskBegun_any (m : Int) (w : World) (hm : w.cell? ⟨0, 0, none⟩ = some (.int .i64 m)) : Calls Tryd.prog 6 #[] w fun e w' => e = .returned (.bool true) ∧ Ext w w' := by
  have HML := Lib.hid hm
  clear hm
  go_enter Tryd.func6, Tryd.ntmps6
  go_wp2_with fail
  refine (play_anyD' _).mono ?_; rintro e w1 ⟨rfl, hp, x1⟩
  go_wp2_with fail
  refine (show_ok _ 13 13 playTD w1 hp playTD_ok (by decide) playTD_good).mono ?_; rintro e w2 ⟨rfl, x2⟩
  rw [show textT playTD = playSD from rfl]
  have X2 := Lib.hid (x1.trans x2); clear x1 x2 hp
  have hd := dplay_any playSD scriptD m w2 (X2.out.keeps _ _ HML.out) (by have := playSD_len; unfold maxLen; omega) (by decide)
  rw [begunE, begunV] at hd
  have HD := Lib.hid hd
  clear hd
  go_wp2_with fail
  refine HD.out.mono ?_; rintro e w3 ⟨rfl, x3⟩
  have X3 := Lib.hid (X2.out.trans x3); clear x3
  simp only [saidD]
  go_wp2
  go_ret
  exact ⟨rfl, X3.out⟩
end Go.Proofs.YtgohhcnmkomafaaDoor
/- Who is needed, in plain Lean: the work list and the rounds tell the same. No program in sight. -/
namespace Go.Proofs.YtgohhcnmkomafaaDoor
set_option linter.unusedVariables false
set_option linter.unusedSimpArgs false
def argsI (gs : List GateM) (k : Int) : List Int := (gs[k.toNat]?.map (·.args)).getD []
def onI (o : List Bool) (k : Int) : Bool := o[k.toNat]?.getD false
def markM (o : List Bool) (l : List Int) : List Bool := l.foldl (fun o a => o.set a.toNat true) o
def roundFrom : List GateM → Nat → List Bool → List Bool
  | [], _, o => o
  | g :: l, k, o => roundFrom l (k + 1) (if onI o k then markM o g.args else o)
def roundM (gs : List GateM) (o : List Bool) : List Bool := roundFrom gs 0 o
def roundsM (gs : List GateM) : Nat → List Bool → List Bool
  | 0, o => o
  | n + 1, o => roundsM gs n (roundM gs o)
def needsM (gs : List GateM) (l : List Int) : List Bool := roundsM gs gs.length (markM (List.replicate gs.length false) l)
def inR (n : Nat) (l : List Int) : Prop := ∀ k ∈ l, 0 ≤ k ∧ k < n
def okArgs (gs : List GateM) : Prop := ∀ g ∈ gs, inR gs.length g.args
inductive NReach (gs : List GateM) (l : List Int) : Int → Prop
  | base {k : Int} : k ∈ l → NReach gs l k
  | step {k a : Int} : NReach gs l k → a ∈ argsI gs k → NReach gs l a
theorem argsI_mem {gs : List GateM} {k a : Int} (h : a ∈ argsI gs k) : ∃ g, gs[k.toNat]? = some g ∧ a ∈ g.args := by
  unfold argsI at h
  cases e : gs[k.toNat]? with
  | none => simp [e] at h
  | some g => exact ⟨g, rfl, by simpa [e] using h⟩
theorem argsI_range {gs : List GateM} (h : okArgs gs) {k a : Int} (ha : a ∈ argsI gs k) : 0 ≤ a ∧ a < gs.length := by
  obtain ⟨g, hg, hm⟩ := argsI_mem ha
  exact h g (List.mem_of_getElem? hg) a hm
theorem reach_range {gs : List GateM} (h : okArgs gs) {l : List Int} (hl : inR gs.length l) {k : Int} (r : NReach gs l k) : 0 ≤ k ∧ k < gs.length := by
  cases r with
  | base hk => exact hl _ hk
  | step _ ha => exact argsI_range h ha
/-! lists of flags -/
theorem onI_set (o : List Bool) (a k : Int) (h0 : 0 ≤ a) (h1 : a < o.length) (k0 : 0 ≤ k) : onI (o.set a.toNat true) k = (onI o k || decide (k = a)) := by
  unfold onI
  rw [List.getElem?_set]
  by_cases e : k = a
  · subst e; rw [if_pos rfl, if_pos (by omega)]; simp
  · have : ¬ a.toNat = k.toNat := by omega
    simp [this, e]
theorem markM_length (l : List Int) : ∀ o : List Bool, (markM o l).length = o.length := by
  induction l with
  | nil => intro o; rfl
  | cons a l ih => intro o; simp only [markM, List.foldl_cons] at *; rw [ih]; simp
theorem onI_mark (l : List Int) (k : Int) (k0 : 0 ≤ k) : ∀ o : List Bool, inR o.length l → (onI (markM o l) k = true ↔ onI o k = true ∨ k ∈ l) := by
  induction l with
  | nil => intro o _; simp [markM]
  | cons a l ih =>
    intro o h
    have ha := h a (by simp)
    have h2 := ih (o.set a.toNat true) (fun x hx => by simpa using h x (by simp [hx]))
    simp only [markM, List.foldl_cons] at h2 ⊢
    rw [h2, onI_set o a k ha.1 ha.2 k0]
    simp only [Bool.or_eq_true, decide_eq_true_eq, List.mem_cons]
    constructor
    · rintro ((h | h) | h)
      · exact .inl h
      · exact .inr (.inl h)
      · exact .inr (.inr h)
    · rintro (h | h | h)
      · exact .inl (.inl h)
      · exact .inl (.inr h)
      · exact .inr h
theorem flags_ext {a b : List Bool} (hl : a.length = b.length) (h : ∀ k : Nat, k < a.length → onI a k = onI b k) : a = b := by
  apply List.ext_getElem hl
  intro i h1 h2
  have := h i h1
  simpa [onI, List.getElem?_eq_getElem h1, List.getElem?_eq_getElem h2] using this
/-- What is needed: closed, and nothing else than is reached. -/
structure Least (gs : List GateM) (l : List Int) (o : List Bool) : Prop where
  len : o.length = gs.length
  sound : ∀ k : Int, 0 ≤ k → onI o k = true → NReach gs l k
  all : ∀ k ∈ l, onI o k = true
  closed : ∀ k : Int, 0 ≤ k → onI o k = true → ∀ a ∈ argsI gs k, onI o a = true
theorem Least.iff {gs : List GateM} {l : List Int} {o : List Bool} (h : Least gs l o) (ok : okArgs gs) (hl : inR gs.length l) {k : Int} (h0 : 0 ≤ k) : onI o k = true ↔ NReach gs l k := by
  refine ⟨h.sound k h0, fun r => ?_⟩
  induction r with
  | base hk => exact h.all _ hk
  | step r ha ih => exact h.closed _ (reach_range ok hl r).1 (ih (reach_range ok hl r).1) _ ha
theorem Least.uniq {gs : List GateM} {l : List Int} {a b : List Bool} (h : Least gs l a) (k : Least gs l b) (ok : okArgs gs) (hl : inR gs.length l) : a = b := by
  refine flags_ext (by rw [h.len, k.len]) fun i _ => ?_
  rw [Bool.eq_iff_iff, h.iff ok hl (by omega), k.iff ok hl (by omega)]
/-! the rounds -/
def subB : List Bool → List Bool → Bool
  | [], [] => true
  | x :: a, y :: b => (!x || y) && subB a b
  | _, _ => false
theorem subB_refl (a : List Bool) : subB a a = true := by
  induction a with
  | nil => rfl
  | cons x a ih => cases x <;> simp [subB, ih]
theorem subB_trans : ∀ {a b c : List Bool}, subB a b = true → subB b c = true → subB a c = true
  | [], [], [], _, _ => rfl
  | [], [], z :: c, _, h => by simp [subB] at h
  | [], y :: b, _, h, _ => by simp [subB] at h
  | x :: a, [], _, h, _ => by simp [subB] at h
  | x :: a, y :: b, [], _, h => by simp [subB] at h
  | x :: a, y :: b, z :: c, h, k => by
    simp only [subB, Bool.and_eq_true] at *
    exact ⟨by cases x <;> cases y <;> cases z <;> simp_all, subB_trans h.2 k.2⟩
theorem subB_anti : ∀ {a b : List Bool}, subB a b = true → subB b a = true → a = b
  | [], [], _, _ => rfl
  | [], y :: b, h, _ => by simp [subB] at h
  | x :: a, [], h, _ => by simp [subB] at h
  | x :: a, y :: b, h, k => by
    simp only [subB, Bool.and_eq_true] at *
    rw [subB_anti h.2 k.2]; cases x <;> cases y <;> simp_all
theorem subB_set : ∀ (o : List Bool) (k : Nat), subB o (o.set k true) = true
  | [], _ => rfl
  | x :: o, 0 => by simp [subB, subB_refl]
  | x :: o, k + 1 => by simp [subB, subB_set o k]
theorem subB_mark (l : List Int) : ∀ o : List Bool, subB o (markM o l) = true := by
  induction l with
  | nil => intro o; exact subB_refl o
  | cons a l ih => intro o; exact subB_trans (subB_set o _) (ih _)
theorem subB_len : ∀ {a b : List Bool}, subB a b = true → a.length = b.length
  | [], [], _ => rfl
  | [], y :: b, h => by simp [subB] at h
  | x :: a, [], h => by simp [subB] at h
  | x :: a, y :: b, h => by simp only [subB, Bool.and_eq_true] at h; simp [subB_len h.2]
theorem subB_at : ∀ {a b : List Bool} (k : Nat), subB a b = true → a[k]?.getD false = true → b[k]?.getD false = true
  | [], _, k, _, h => by simp at h
  | x :: a, [], _, h, _ => by simp [subB] at h
  | x :: a, y :: b, 0, h, k => by simp only [subB, Bool.and_eq_true] at h; simp_all
  | x :: a, y :: b, n + 1, h, k => by simp only [subB, Bool.and_eq_true] at h; simpa using subB_at n h.2 (by simpa using k)
def cnt (o : List Bool) : Nat := o.countP id
theorem cnt_le : ∀ {a b : List Bool}, subB a b = true → cnt a ≤ cnt b ∧ (cnt a = cnt b → a = b)
  | [], [], _ => ⟨Nat.le_refl _, fun _ => rfl⟩
  | [], y :: b, h => by simp [subB] at h
  | x :: a, [], h => by simp [subB] at h
  | x :: a, y :: b, h => by
    simp only [subB, Bool.and_eq_true] at h
    obtain ⟨h1, h2⟩ := cnt_le h.2
    unfold cnt at *
    cases x <;> cases y <;> simp_all <;> omega
theorem cnt_max (o : List Bool) : cnt o ≤ o.length := List.countP_le_length
theorem roundFrom_sub (l : List GateM) : ∀ (k : Nat) (o : List Bool), subB o (roundFrom l k o) = true := by
  induction l with
  | nil => intro k o; exact subB_refl o
  | cons g l ih =>
    intro k o
    simp only [roundFrom]
    split
    · exact subB_trans (subB_mark _ _) (ih _ _)
    · exact ih _ _
theorem roundFrom_sound {gs : List GateM} {q : List Int} (ok : okArgs gs) (hq : inR gs.length q) (l : List GateM) : ∀ (k : Nat) (o : List Bool), gs.drop k = l → o.length = gs.length → (∀ i : Int, 0 ≤ i → onI o i = true → NReach gs q i) →
    ∀ i : Int, 0 ≤ i → onI (roundFrom l k o) i = true → NReach gs q i := by
  induction l with
  | nil => intro k o _ _ h; exact h
  | cons g l ih =>
    intro k o hd ho h i hi hon
    simp only [roundFrom] at hon
    have hk : gs[k]? = some g := by
      have : (gs.drop k)[0]? = some g := by rw [hd]; rfl
      simpa using this
    have hd' : gs.drop (k + 1) = l := by rw [← List.drop_drop, hd]; rfl
    split at hon
    · rename_i hk2
      refine ih (k + 1) _ hd' (by rw [markM_length, ho]) (fun j hj hj2 => ?_) i hi hon
      have hr : inR o.length g.args := by rw [ho]; exact ok g (List.mem_of_getElem? hk)
      rcases (onI_mark g.args j hj o hr).1 hj2 with e | e
      · exact h j hj e
      · exact .step (h k (by omega) hk2) (by simp [argsI, hk, e])
    · exact ih (k + 1) o hd' ho h i hi hon
theorem roundFrom_fix {gs : List GateM} (ok : okArgs gs) (l : List GateM) : ∀ (k : Nat) (o : List Bool), gs.drop k = l → o.length = gs.length → subB (roundFrom l k o) o = true →
    ∀ (j : Nat) (g : GateM), l[j]? = some g → onI o ((k + j : Nat) : Int) = true → ∀ a ∈ g.args, onI o a = true := by
  induction l with
  | nil => intro k o _ _ _ j g h; simp at h
  | cons g l ih =>
    intro k o hd ho h j x hj hon a ha
    have hk : gs[k]? = some g := by
      have : (gs.drop k)[0]? = some g := by rw [hd]; rfl
      simpa using this
    have hd' : gs.drop (k + 1) = l := by rw [← List.drop_drop, hd]; rfl
    simp only [roundFrom] at h
    generalize hb : onI o k = b at h
    cases b
    · simp only [Bool.false_eq_true, if_false] at h
      cases j with
      | zero => simp at hon; rw [hon] at hb; cases hb
      | succ j => exact ih (k + 1) o hd' ho h j x (by simpa using hj) (by rw [show k + 1 + j = k + (j + 1) from by omega]; exact hon) a ha
    · simp only [if_true] at h
      have hm : markM o g.args = o := subB_anti (subB_trans (roundFrom_sub l (k + 1) _) h) (subB_mark _ _)
      rw [hm] at h
      cases j with
      | zero =>
        simp at hj; subst hj
        have hr : inR o.length g.args := by rw [ho]; exact ok g (List.mem_of_getElem? hk)
        have := (onI_mark g.args a (hr a ha).1 o hr).2 (.inr ha)
        rwa [hm] at this
      | succ j => exact ih (k + 1) o hd' ho h j x (by simpa using hj) (by rw [show k + 1 + j = k + (j + 1) from by omega]; exact hon) a ha
theorem roundM_len (gs : List GateM) (o : List Bool) : (roundM gs o).length = o.length := (subB_len (roundFrom_sub gs 0 o)).symm
theorem roundsM_fixed (gs : List GateM) (n : Nat) : ∀ o, roundM gs o = o → roundsM gs n o = o := by
  induction n with
  | zero => intro o _; rfl
  | succ n ih => intro o h; simp only [roundsM, h]; exact ih o h
theorem roundsM_fix (gs : List GateM) (n : Nat) : ∀ o : List Bool, o.length - cnt o ≤ n → roundM gs (roundsM gs n o) = roundsM gs n o := by
  induction n with
  | zero =>
    intro o h
    simp only [roundsM]
    have h1 := cnt_le (roundFrom_sub gs 0 o)
    have h2 := cnt_max (roundFrom gs 0 o)
    have h3 := cnt_max o
    have h4 := roundM_len gs o
    unfold roundM at *
    exact (h1.2 (by omega)).symm
  | succ n ih =>
    intro o h
    by_cases e : roundM gs o = o
    · rw [roundsM_fixed gs (n + 1) o e]; exact e
    · simp only [roundsM]
      refine ih _ ?_
      have h1 := cnt_le (roundFrom_sub gs 0 o)
      have h4 := roundM_len gs o
      have : cnt o ≠ cnt (roundM gs o) := fun hc => e (h1.2 hc).symm
      unfold roundM at *
      omega
theorem roundsM_len (gs : List GateM) (n : Nat) : ∀ o, (roundsM gs n o).length = o.length := by
  induction n with
  | zero => intro o; rfl
  | succ n ih => intro o; simp only [roundsM]; rw [ih, roundM_len]
theorem roundsM_sub (gs : List GateM) (n : Nat) : ∀ o, subB o (roundsM gs n o) = true := by
  induction n with
  | zero => intro o; exact subB_refl o
  | succ n ih => intro o; exact subB_trans (roundFrom_sub gs 0 o) (ih _)
theorem roundsM_sound {gs : List GateM} {q : List Int} (ok : okArgs gs) (hq : inR gs.length q) (n : Nat) : ∀ o : List Bool, o.length = gs.length → (∀ i : Int, 0 ≤ i → onI o i = true → NReach gs q i) →
    ∀ i : Int, 0 ≤ i → onI (roundsM gs n o) i = true → NReach gs q i := by
  induction n with
  | zero => intro o _ h; exact h
  | succ n ih => intro o ho h; exact ih _ (by rw [roundM_len, ho]) (roundFrom_sound ok hq gs 0 o rfl ho h)
theorem onI_none (n : Nat) (k : Int) : onI (List.replicate n false) k = false := by
  unfold onI; rw [List.getElem?_replicate]; split <;> rfl
theorem needsM_len (gs : List GateM) (l : List Int) : (needsM gs l).length = gs.length := by simp [needsM, roundsM_len, markM_length]
theorem needsM_least {gs : List GateM} {l : List Int} (ok : okArgs gs) (hl : inR gs.length l) : Least gs l (needsM gs l) := by
  have hr : inR (List.replicate gs.length false).length l := by simpa using hl
  have h0 : ∀ k : Int, 0 ≤ k → (onI (markM (List.replicate gs.length false) l) k = true ↔ k ∈ l) := fun k k0 => by
    rw [onI_mark l k k0 _ hr, onI_none]; simp
  refine ⟨needsM_len _ _, fun k k0 h => ?_, fun k hk => ?_, fun k k0 h a ha => ?_⟩
  · exact roundsM_sound ok hl _ _ (by simp [markM_length]) (fun i i0 h => .base ((h0 i i0).1 h)) k k0 h
  · exact subB_at k.toNat (roundsM_sub gs _ _) ((h0 k (hl k hk).1).2 hk)
  · obtain ⟨g, hg, hm⟩ := argsI_mem ha
    have hf := roundsM_fix gs gs.length (markM (List.replicate gs.length false) l) (by simp [markM_length])
    refine roundFrom_fix ok gs 0 _ rfl (needsM_len gs l) (by rw [show roundFrom gs 0 (needsM gs l) = needsM gs l from hf]; exact subB_refl _) k.toNat g hg ?_ a hm
    have : ((0 + k.toNat : Nat) : Int) = k := by omega
    rw [this]; exact h
/-! the work list -/
structure NeedInv (gs : List GateM) (l : List Int) (o : List Bool) (work : List Int) : Prop where
  len : o.length = gs.length
  sound : ∀ k : Int, 0 ≤ k → onI o k = true → NReach gs l k
  ws : ∀ k ∈ work, NReach gs l k
  all : ∀ k ∈ l, onI o k = true ∨ k ∈ work
  closed : ∀ k : Int, 0 ≤ k → onI o k = true → ∀ a ∈ argsI gs k, onI o a = true ∨ a ∈ work
theorem NeedInv.start (gs : List GateM) (l : List Int) : NeedInv gs l (List.replicate gs.length false) l :=
  ⟨by simp, fun k _ h => absurd h (by rw [onI_none]; decide), fun k h => .base h, fun k h => .inr h, fun k _ h => absurd h (by rw [onI_none]; decide)⟩
theorem NeedInv.done {gs : List GateM} {l : List Int} {o : List Bool} (h : NeedInv gs l o []) (ok : okArgs gs) (hl : inR gs.length l) : o = needsM gs l := by
  refine Least.uniq (gs := gs) (l := l) ⟨h.len, h.sound, fun k hk => ?_, fun k k0 hk a ha => ?_⟩ (needsM_least ok hl) ok hl
  · rcases h.all k hk with e | e
    · exact e
    · cases e
  · rcases h.closed k k0 hk a ha with e | e
    · exact e
    · cases e
theorem NeedInv.range {gs : List GateM} {l : List Int} {o : List Bool} {work : List Int} {k : Int} (h : NeedInv gs l o (work ++ [k])) (ok : okArgs gs) (hl : inR gs.length l) : 0 ≤ k ∧ k < gs.length :=
  reach_range ok hl (h.ws k (by simp))
/-! the law NetTrue -/
end Go.Proofs.YtgohhcnmkomafaaDoor
/- What is settled, in plain Lean: rounds and the work list tell the same, the least that solves. No program in sight. -/
namespace Go.Proofs.YtgohhcnmkomafaaDoor
set_option linter.unusedVariables false
set_option linter.unusedSimpArgs false
def valI (v : List Int) (k : Int) : Int := v[k.toNat]?.getD 0
def worthM (regs ins v : List Int) (g : GateM) : Int :=
  if g.kind = 0 then 0 else if g.kind = 1 then 1 else if g.kind = 2 then valI ins g.num else if g.kind = 3 then valI regs g.num
  else ofM g.kind (g.args.map (valI v))
def nextV (gs : List GateM) (regs ins v : List Int) : List Int := gs.map (worthM regs ins v)
def itV (gs : List GateM) (regs ins : List Int) : Nat → List Int → List Int
  | 0, v => v
  | n + 1, v => itV gs regs ins n (nextV gs regs ins v)
def opensM (n : Nat) : List Int := List.replicate n 2
def settledM (gs : List GateM) (regs ins : List Int) : List Int := itV gs regs ins gs.length (opensM gs.length)
def goodL (l : List Int) : Prop := ∀ x ∈ l, x = 0 ∨ x = 1 ∨ x = 2
def leI (x y : Int) : Prop := x = 2 ∨ x = y
theorem leI.refl (x : Int) : leI x x := .inr rfl
theorem leI.trans {x y z : Int} (h : leI x y) (k : leI y z) : leI x z := by
  rcases h with h | rfl
  · exact .inl h
  · exact k
theorem leI.anti {x y : Int} (h : leI x y) (k : leI y x) : x = y := by
  rcases h with rfl | h
  · rcases k with h | h <;> omega
  · exact h
/-! leqM: as lists -/
theorem leqM_refl (a : List Int) : leqM a a = true := by
  induction a with
  | nil => rfl
  | cons x a ih => simp [leqM, ih]
theorem leqM_iff : ∀ {a b : List Int}, a.length = b.length → (leqM a b = true ↔ ∀ k : Nat, k < a.length → leI (a[k]?.getD 0) (b[k]?.getD 0))
  | [], [], _ => by simp [leqM]
  | [], y :: b, h => by simp at h
  | x :: a, [], h => by simp at h
  | x :: a, y :: b, h => by
    have ih := leqM_iff (a := a) (b := b) (by simpa using h)
    simp only [leqM, Bool.and_eq_true, Bool.or_eq_true, decide_eq_true_eq, ih]
    constructor
    · rintro ⟨h1, h2⟩ k hk
      cases k with
      | zero => simpa [leI] using h1
      | succ k => simpa using h2 k (by simpa using hk)
    · intro h2
      exact ⟨by simpa [leI] using h2 0 (by simp), fun k hk => by simpa using h2 (k + 1) (by simpa using hk)⟩
theorem leqM_val {a b : List Int} (hl : a.length = b.length) (h : leqM a b = true) (k : Int) : leI (valI a k) (valI b k) := by
  unfold valI
  rcases Nat.lt_or_ge k.toNat a.length with e | e
  · exact (leqM_iff hl).1 h _ e
  · rw [List.getElem?_eq_none e, List.getElem?_eq_none (by omega)]; exact leI.refl _
theorem leqM_of_val {a b : List Int} (hl : a.length = b.length) (h : ∀ k : Nat, k < a.length → leI (valI a k) (valI b k)) : leqM a b = true :=
  (leqM_iff hl).2 fun k hk => by have := h k hk; simpa [valI] using this
theorem val_ext {a b : List Int} (hl : a.length = b.length) (h : ∀ k : Nat, k < a.length → valI a k = valI b k) : a = b := by
  apply List.ext_getElem hl
  intro i h1 h2
  have := h i h1
  simpa [valI, List.getElem?_eq_getElem h1, List.getElem?_eq_getElem h2] using this
theorem leqM_anti {a b : List Int} (hl : a.length = b.length) (h : leqM a b = true) (k : leqM b a = true) : a = b :=
  val_ext hl fun i _ => (leqM_val hl h i).anti (leqM_val hl.symm k i)
theorem leqM_opens (v : List Int) : leqM (opensM v.length) v = true := by
  refine leqM_of_val (by simp [opensM]) fun k hk => ?_
  left; simp only [opensM, List.length_replicate] at hk
  simp [valI, opensM, hk]
/-! gates -/
theorem leqM_map {v u : List Int} (hl : v.length = u.length) (h : leqM v u = true) (l : List Int) : leqM (l.map (valI v)) (l.map (valI u)) = true := by
  induction l with
  | nil => rfl
  | cons a l ih =>
    simp only [List.map_cons, leqM, ih, Bool.and_true, Bool.or_eq_true, decide_eq_true_eq]
    exact leqM_val hl h a
theorem worth_mono {regs regs' ins ins' v u : List Int} (hr : regs.length = regs'.length) (hi : ins.length = ins'.length) (hl : v.length = u.length)
    (h1 : leqM regs regs' = true) (h2 : leqM ins ins' = true) (h : leqM v u = true) (g : GateM) : leI (worthM regs ins v g) (worthM regs' ins' u g) := by
  unfold worthM
  split
  · exact leI.refl _
  split
  · exact leI.refl _
  split
  · exact leqM_val hi h2 _
  split
  · exact leqM_val hr h1 _
  have hm := leqM_map hl h g.args
  by_cases k4 : g.kind = 4
  · exact leq_of _ (.inl k4) _ _ (by simp) hm
  by_cases k5 : g.kind = 5
  · exact leq_of _ (.inr k5) _ _ (by simp) hm
  simp only [ofM, if_neg k4, if_neg k5]
  cases hg : g.args with
  | nil => exact leI.refl _
  | cons a l =>
    simp only [List.map_cons, List.headD_cons]
    rcases leqM_val hl h a with e | e
    · left; rw [e]; rfl
    · right; rw [e]
theorem next_len (gs : List GateM) (regs ins v : List Int) : (nextV gs regs ins v).length = gs.length := by simp [nextV]
theorem next_val {gs : List GateM} {regs ins v : List Int} {k : Nat} {g : GateM} (h : gs[k]? = some g) : valI (nextV gs regs ins v) k = worthM regs ins v g := by
  simp [valI, nextV, h]
theorem next_mono {gs : List GateM} {regs regs' ins ins' v u : List Int} (hr : regs.length = regs'.length) (hi : ins.length = ins'.length) (hl : v.length = u.length)
    (h1 : leqM regs regs' = true) (h2 : leqM ins ins' = true) (h : leqM v u = true) : leqM (nextV gs regs ins v) (nextV gs regs' ins' u) = true := by
  refine leqM_of_val (by simp [next_len]) fun k hk => ?_
  rw [next_len] at hk
  rw [next_val (List.getElem?_eq_getElem hk), next_val (List.getElem?_eq_getElem hk)]
  exact worth_mono hr hi hl h1 h2 h _
theorem valI_good {v : List Int} (h : goodL v) (k : Int) : valI v k = 0 ∨ valI v k = 1 ∨ valI v k = 2 := by
  unfold valI
  cases e : v[k.toNat]? with
  | none => left; rfl
  | some x => exact h x (List.mem_of_getElem? e)
theorem ofM_good {l : List Int} (hk : goodL l) (k : Int) : ofM k l = 0 ∨ ofM k l = 1 ∨ ofM k l = 2 := by
  unfold ofM
  split
  · rw [gatherM_eq 0 (by decide)]; repeat' split
    all_goals simp
  split
  · rw [gatherM_eq 1 (by decide)]; repeat' split
    all_goals simp
  · exact good3 (notM_good _)
theorem worth_good {regs ins v : List Int} (hr : goodL regs) (hi : goodL ins) (hv : goodL v) (g : GateM) : worthM regs ins v g = 0 ∨ worthM regs ins v g = 1 ∨ worthM regs ins v g = 2 := by
  unfold worthM
  split
  · simp
  split
  · simp
  split
  · exact valI_good hi _
  split
  · exact valI_good hr _
  refine ofM_good (fun x hx => ?_) _
  obtain ⟨a, _, rfl⟩ := List.mem_map.1 hx
  exact valI_good hv a
/-! the least that solves -/
structure LeastV (gs : List GateM) (regs ins v : List Int) : Prop where
  len : v.length = gs.length
  fix : nextV gs regs ins v = v
  least : ∀ u : List Int, u.length = gs.length → nextV gs regs ins u = u → leqM v u = true
theorem LeastV.uniq {gs : List GateM} {regs ins v u : List Int} (h : LeastV gs regs ins v) (k : LeastV gs regs ins u) : v = u :=
  leqM_anti (by rw [h.len, k.len]) (h.least u k.len k.fix) (k.least v h.len h.fix)
def cntV (v : List Int) : Nat := v.countP (fun x => !decide (x = 2))
theorem cntV_le : ∀ {a b : List Int}, a.length = b.length → leqM a b = true → cntV a ≤ cntV b ∧ (cntV a = cntV b → a = b)
  | [], [], _, _ => ⟨Nat.le_refl _, fun _ => rfl⟩
  | [], y :: b, h, _ => by simp at h
  | x :: a, [], h, _ => by simp at h
  | x :: a, y :: b, h, k => by
    simp only [leqM, Bool.and_eq_true, Bool.or_eq_true, decide_eq_true_eq] at k
    obtain ⟨h1, h2⟩ := cntV_le (a := a) (b := b) (by simpa using h) k.2
    unfold cntV at *
    rcases k.1 with e | e
    · subst e
      by_cases hy : y = 2
      · subst hy; simp_all
      · simp [hy]; constructor <;> omega
    · subst e
      by_cases hx : x = 2
      · subst hx; simp_all
      · simp [hx]; exact ⟨h1, h2⟩
theorem cntV_max (v : List Int) : cntV v ≤ v.length := List.countP_le_length
/-- A state of the rounds: it grows, and says no more than whatever solves. -/
structure RoundV (gs : List GateM) (regs ins v : List Int) : Prop where
  len : v.length = gs.length
  up : leqM v (nextV gs regs ins v) = true
  below : ∀ u : List Int, u.length = gs.length → nextV gs regs ins u = u → leqM v u = true
theorem RoundV.start (gs : List GateM) (regs ins : List Int) : RoundV gs regs ins (opensM gs.length) :=
  ⟨by simp [opensM], by have := leqM_opens (nextV gs regs ins (opensM gs.length)); rwa [next_len] at this, fun u hu _ => by have := leqM_opens u; rwa [hu] at this⟩
theorem RoundV.next {gs : List GateM} {regs ins v : List Int} (h : RoundV gs regs ins v) : RoundV gs regs ins (nextV gs regs ins v) :=
  ⟨next_len _ _ _ _, next_mono rfl rfl (by rw [next_len, h.len]) (leqM_refl _) (leqM_refl _) h.up, fun u hu hf => by
    have := next_mono (gs := gs) (regs := regs) (ins := ins) rfl rfl (by rw [h.len, hu]) (leqM_refl _) (leqM_refl _) (h.below u hu hf)
    rwa [hf] at this⟩
theorem RoundV.more {gs : List GateM} {regs ins v : List Int} (h : RoundV gs regs ins v) (hn : nextV gs regs ins v ≠ v) : cntV v < cntV (nextV gs regs ins v) := by
  have h1 := cntV_le (by rw [next_len, h.len]) h.up
  rcases Nat.lt_or_ge (cntV v) (cntV (nextV gs regs ins v)) with e | e
  · exact e
  · exact absurd (h1.2 (by omega)).symm hn
theorem RoundV.done {gs : List GateM} {regs ins v : List Int} (h : RoundV gs regs ins v) (hf : nextV gs regs ins v = v) : LeastV gs regs ins v := ⟨h.len, hf, h.below⟩
theorem itV_fixed {gs : List GateM} {regs ins : List Int} (n : Nat) : ∀ {v : List Int}, nextV gs regs ins v = v → itV gs regs ins n v = v := by
  induction n with
  | zero => intro v _; rfl
  | succ n ih => intro v h; simp only [itV, h]; exact ih h
theorem itV_least {gs : List GateM} {regs ins : List Int} (n : Nat) : ∀ {v : List Int}, RoundV gs regs ins v → gs.length ≤ n + cntV v → LeastV gs regs ins (itV gs regs ins n v) := by
  induction n with
  | zero =>
    intro v h hn
    refine h.done ?_
    have h1 := cntV_le (by rw [next_len, h.len]) h.up
    have h2 := cntV_max (nextV gs regs ins v)
    rw [next_len] at h2
    exact (h1.2 (by omega)).symm
  | succ n ih =>
    intro v h hn
    by_cases e : nextV gs regs ins v = v
    · rw [itV_fixed _ e]; exact h.done e
    · exact ih h.next (by have := h.more e; omega)
theorem settled_least (gs : List GateM) (regs ins : List Int) : LeastV gs regs ins (settledM gs regs ins) := itV_least _ (RoundV.start gs regs ins) (by omega)
theorem opens_good (n : Nat) : goodL (opensM n) := fun x hx => by rw [opensM, List.mem_replicate] at hx; exact .inr (.inr hx.2)
/-! the users of each gate -/
def addUses (u : List (List Int)) (k : Int) (args : List Int) : List (List Int) := args.foldl (fun u a => u.modify a.toNat (· ++ [k])) u
def usersFrom : List GateM → Nat → List (List Int) → List (List Int)
  | [], _, u => u
  | g :: l, k, u => usersFrom l (k + 1) (addUses u k g.args)
def usersM (gs : List GateM) : List (List Int) := usersFrom gs 0 (List.replicate gs.length [])
def useI (u : List (List Int)) (a : Int) : List Int := u[a.toNat]?.getD []
theorem addUses_len (k : Int) (args : List Int) : ∀ u, (addUses u k args).length = u.length := by
  induction args with
  | nil => intro u; rfl
  | cons a l ih => intro u; simp only [addUses, List.foldl_cons] at *; rw [ih]; simp
theorem useI_modify (u : List (List Int)) (a b k : Int) (ha : 0 ≤ a) (hb : 0 ≤ b) : useI (u.modify a.toNat (· ++ [k])) b = if a = b ∧ a < u.length then useI u b ++ [k] else useI u b := by
  unfold useI
  rw [List.getElem?_modify]
  by_cases e : a = b
  · subst e
    rcases Nat.lt_or_ge a.toNat u.length with h | h
    · rw [List.getElem?_eq_getElem h]; rw [if_pos ⟨rfl, by omega⟩]; simp
    · rw [List.getElem?_eq_none h]; rw [if_neg (by omega)]; simp
  · have : ¬ a.toNat = b.toNat := by omega
    simp [this, e]
theorem mem_addUses (k j b : Int) (hb : 0 ≤ b) (args : List Int) : ∀ u : List (List Int), (∀ a ∈ args, 0 ≤ a ∧ a < u.length) → (j ∈ useI (addUses u k args) b ↔ j ∈ useI u b ∨ (j = k ∧ b ∈ args)) := by
  induction args with
  | nil => intro u _; simp [addUses]
  | cons a l ih =>
    intro u h
    have ha := h a (by simp)
    have h2 := ih (u.modify a.toNat (· ++ [k])) (fun x hx => by simpa using h x (by simp [hx]))
    simp only [addUses, List.foldl_cons] at h2 ⊢
    rw [h2, useI_modify u a b k ha.1 hb]
    by_cases e : a = b
    · subst e; rw [if_pos ⟨rfl, ha.2⟩]; simp only [List.mem_append, List.mem_cons, List.not_mem_nil, or_false]
      constructor
      · rintro ((h | h) | h)
        · exact .inl h
        · exact .inr ⟨h, by simp⟩
        · exact .inr ⟨h.1, by simp⟩
      · rintro (h | h)
        · exact .inl (.inl h)
        · exact .inl (.inr h.1)
    · have e' : ¬ b = a := fun x => e x.symm
      rw [if_neg (fun x => e x.1)]; simp [e']
theorem mem_usersFrom {gs : List GateM} (j b : Int) (hb : 0 ≤ b) (ok : ∀ g ∈ gs, ∀ a ∈ g.args, 0 ≤ a ∧ a < gs.length) (l : List GateM) : ∀ (k : Nat) (u : List (List Int)), gs.drop k = l → u.length = gs.length →
    (j ∈ useI (usersFrom l k u) b ↔ j ∈ useI u b ∨ ∃ (i : Nat) (g : GateM), l[i]? = some g ∧ j = ((k + i : Nat) : Int) ∧ b ∈ g.args) := by
  induction l with
  | nil => intro k u _ _; simp [usersFrom]
  | cons g l ih =>
    intro k u hd hu
    have hk : gs[k]? = some g := by
      have : (gs.drop k)[0]? = some g := by rw [hd]; rfl
      simpa using this
    have hd' : gs.drop (k + 1) = l := by rw [← List.drop_drop, hd]; rfl
    simp only [usersFrom]
    rw [ih (k + 1) _ hd' (by rw [addUses_len, hu]), mem_addUses k j b hb g.args u (by rw [hu]; exact ok g (List.mem_of_getElem? hk))]
    constructor
    · rintro ((h | ⟨rfl, h⟩) | ⟨i, x, h1, h2, h3⟩)
      · exact .inl h
      · exact .inr ⟨0, g, rfl, by simp, h⟩
      · exact .inr ⟨i + 1, x, by simpa using h1, by rw [h2]; omega, h3⟩
    · rintro (h | ⟨i, x, h1, h2, h3⟩)
      · exact .inl (.inl h)
      · cases i with
        | zero => simp at h1; subst h1; exact .inl (.inr ⟨by simpa using h2, h3⟩)
        | succ i => exact .inr ⟨i, x, by simpa using h1, by rw [h2]; omega, h3⟩
theorem mem_users {gs : List GateM} (ok : ∀ g ∈ gs, ∀ a ∈ g.args, 0 ≤ a ∧ a < gs.length) {j b : Int} (hb : 0 ≤ b) :
    j ∈ useI (usersM gs) b ↔ ∃ (i : Nat) (g : GateM), gs[i]? = some g ∧ j = (i : Int) ∧ b ∈ g.args := by
  unfold usersM
  rw [mem_usersFrom j b hb ok gs 0 _ rfl (by simp)]
  have : j ∉ useI (List.replicate gs.length []) b := by unfold useI; rw [List.getElem?_replicate]; split <;> simp
  simp [this]
/-! the work list -/
structure SInv (gs : List GateM) (regs ins v : List Int) (work : List Int) : Prop where
  len : v.length = gs.length
  good : goodL v
  below : ∀ u : List Int, u.length = gs.length → nextV gs regs ins u = u → leqM v u = true
  asc : ∀ (k : Nat) (g : GateM), gs[k]? = some g → valI v k ≠ 2 → worthM regs ins v g = valI v k
  wait : ∀ (k : Nat) (g : GateM), gs[k]? = some g → valI v k = 2 → (k : Int) ∉ work → worthM regs ins v g = 2
  ws : ∀ k ∈ work, 0 ≤ k ∧ k < gs.length
theorem SInv.start (gs : List GateM) (regs ins : List Int) (work : List Int) (hw : ∀ k : Int, k ∈ work ↔ 0 ≤ k ∧ k < gs.length) : SInv gs regs ins (opensM gs.length) work := by
  refine ⟨by simp [opensM], opens_good _, fun u hu _ => by have := leqM_opens u; rwa [hu] at this, fun k g hk h => absurd ?_ h, fun k g hk _ hn => absurd ?_ hn, fun k hk => (hw k).1 hk⟩
  · have : k < gs.length := (List.getElem?_eq_some_iff.1 hk).1
    simp [valI, opensM, this]
  · have : k < gs.length := (List.getElem?_eq_some_iff.1 hk).1
    exact (hw k).2 (by omega)
theorem SInv.done {gs : List GateM} {regs ins v : List Int} (h : SInv gs regs ins v []) : v = settledM gs regs ins := by
  have hf : nextV gs regs ins v = v := by
    refine val_ext (by rw [next_len, h.len]) fun k hk => ?_
    rw [next_len] at hk
    rw [next_val (List.getElem?_eq_getElem hk)]
    by_cases e : valI v k = 2
    · rw [h.wait k _ (List.getElem?_eq_getElem hk) e (by simp), e]
    · exact h.asc k _ (List.getElem?_eq_getElem hk) e
  exact LeastV.uniq ⟨h.len, hf, h.below⟩ (settled_least _ _ _)
theorem SInv.none {gs : List GateM} {regs ins v : List Int} {k : Int} {work : List Int} {g : GateM} (h : SInv gs regs ins v (k :: work)) (hg : gs[k.toNat]? = some g) (hx : worthM regs ins v g = 2) : SInv gs regs ins v work :=
  ⟨h.len, h.good, h.below, h.asc, fun j g' hj he hn => by
    have h0 := (h.ws k (by simp)).1
    by_cases e : (j : Int) = k
    · have : k.toNat = j := by omega
      rw [this, hj] at hg; injection hg with hg; rw [hg]; exact hx
    · exact h.wait j g' hj he (fun x => by
        rcases List.mem_cons.1 x with x | x
        · exact e x
        · exact hn x), fun j hj => h.ws j (by simp [hj])⟩
theorem valI_set (v : List Int) (k : Int) (x : Int) (j : Nat) (h0 : 0 ≤ k) (h1 : k < v.length) : valI (v.set k.toNat x) j = if (j : Int) = k then x else valI v j := by
  unfold valI
  simp only [Int.toNat_natCast]
  rw [List.getElem?_set]
  by_cases e : (j : Int) = k
  · rw [if_pos (by omega : k.toNat = j), if_pos (by omega), if_pos e]; rfl
  · rw [if_neg (by omega : ¬ k.toNat = j), if_neg e]
theorem worth_other {regs ins v u : List Int} {g : GateM} (h : ∀ a ∈ g.args, valI v a = valI u a) : worthM regs ins v g = worthM regs ins u g := by
  unfold worthM
  have : g.args.map (valI v) = g.args.map (valI u) := List.map_congr_left h
  rw [this]
theorem SInv.settle {gs : List GateM} {regs ins v : List Int} {k : Int} {work : List Int} {g : GateM} (h : SInv gs regs ins v (k :: work)) (hr : goodL regs) (hi : goodL ins) (ok : ∀ g ∈ gs, ∀ a ∈ g.args, 0 ≤ a ∧ a < gs.length)
    (hg : gs[k.toNat]? = some g) (hv : valI v k = 2) (hx : worthM regs ins v g ≠ 2) : SInv gs regs ins (v.set k.toNat (worthM regs ins v g)) (work ++ useI (usersM gs) k) := by
  obtain ⟨h0, h1⟩ := h.ws k (by simp)
  have hs := fun j : Nat => valI_set v k (worthM regs ins v g) j h0 (by rw [h.len]; exact h1)
  have hl : v.length = (v.set k.toNat (worthM regs ins v g)).length := by simp
  have hup : leqM v (v.set k.toNat (worthM regs ins v g)) = true := leqM_of_val hl fun j _ => by
    rw [hs j]; split
    · rename_i e; left; rw [e]; exact hv
    · exact leI.refl _
  have hsame : ∀ (g' : GateM), worthM regs ins v g' ≠ 2 → worthM regs ins (v.set k.toNat (worthM regs ins v g)) g' = worthM regs ins v g' := fun g' hn => by
    rcases worth_mono (regs := regs) (ins := ins) rfl rfl hl (leqM_refl _) (leqM_refl _) hup g' with e | e
    · exact absurd e hn
    · exact e.symm
  refine ⟨by simp [h.len], fun x hx => ?_, fun u hu hf => ?_, fun j g' hj hn => ?_, fun j g' hj he hn => ?_, fun j hj => ?_⟩
  · rcases List.mem_or_eq_of_mem_set hx with e | e
    · exact h.good x e
    · rw [e]; exact worth_good hr hi h.good g
  · have hb := h.below u hu hf
    refine leqM_of_val (by simp [h.len, hu]) fun j hj => ?_
    rw [hs j]; split
    · rename_i e
      rcases worth_mono (regs := regs) (ins := ins) rfl rfl (by rw [h.len, hu]) (leqM_refl _) (leqM_refl _) hb g with e2 | e2
      · exact absurd e2 hx
      · right; rw [e2]
        have hj2 : gs[j]? = some g := by rw [← hg]; congr 1; omega
        have := next_val (regs := regs) (ins := ins) (v := u) hj2
        rw [hf] at this; exact this.symm
    · exact leqM_val (by rw [h.len, hu]) hb j
  · rw [hs j] at hn ⊢
    split
    · rename_i e
      have hj2 : gs[k.toNat]? = some g' := by rw [← hj]; congr 1; omega
      rw [hg] at hj2; injection hj2 with hj2; subst hj2
      exact hsame g hx
    · rename_i e
      rw [if_neg e] at hn
      have ha := h.asc j g' hj hn
      rw [hsame g' (by rw [ha]; exact hn), ha]
  · rw [hs j] at he
    split at he
    · exact absurd he hx
    · rename_i e
      have hn' : (j : Int) ∉ work ∧ (j : Int) ∉ useI (usersM gs) k := by
        exact ⟨fun x => hn (by simp [x]), fun x => hn (by simp [x])⟩
      have hw := h.wait j g' hj he (fun x => by
        rcases List.mem_cons.1 x with x | x
        · exact e x
        · exact hn'.1 x)
      rw [← hw]
      symm
      refine worth_other fun a ha => ?_
      have hak : a ≠ k := fun x => hn'.2 ((mem_users ok h0).2 ⟨j, g', hj, rfl, by rw [← x]; exact ha⟩)
      have ha0 := (ok g' (List.mem_of_getElem? hj) a ha).1
      have := hs a.toNat
      rw [show ((a.toNat : Nat) : Int) = a from by omega] at this
      rw [this, if_neg hak]
  · rcases List.mem_append.1 hj with e | e
    · exact h.ws j (by simp [e])
    · obtain ⟨i, g', hi', rfl, _⟩ := (mem_users ok h0).1 e
      have := (List.getElem?_eq_some_iff.1 hi').1
      omega
/-! the law EvalTrue -/
end Go.Proofs.YtgohhcnmkomafaaDoor
