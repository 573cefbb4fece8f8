/- Play, by the program. -/
import Derived.Test.YtgohhcnmkomafaaGreatDoorDz08
import Derived.Test.YtgohhcnmkomafaaGreatDoorDz09
import Derived.Shelf.Strings.BuilderK
import Derived.Test.YtgohhcnmkomafaaGreatDoorDz05
import Derived.Test.YtgohhcnmkomafaaGreatDoorDz06
import Derived.Test.YtgohhcnmkomafaaGreatDoorDz02
import Derived.Orders
namespace Go.Proofs.YtgohhcnmkomafaaGreatDoor
set_option linter.unusedVariables false
set_option linter.unusedSimpArgs false
set_option linter.unusedVariables false
set_option linter.unusedSimpArgs false
set_option maxRecDepth 100000
open Go.RowKit Go.Shelf
attribute [local go_sem] Oper.semAt_some
theorem prog_none_read {s : List UInt8} (h : progOfText s = none) : readT 15 14 s = none ∨ ∃ t r, readT 15 14 s = some (t, r) ∧ r ≠ [] := by
  unfold progOfText at h
  cases hr : readT 15 14 s with
  | none => exact .inl rfl
  | some q =>
    obtain ⟨t, r⟩ := q
    rw [hr] at h
    cases r with
    | nil => cases h
    | cons c r => exact .inr ⟨t, c :: r, rfl, by simp⟩
theorem prog_some_read {s : List UInt8} {t : Tr} (h : progOfText s = some t) : readT 15 14 s = some (t, []) := by
  unfold progOfText at h
  split at h
  · rename_i t' h1; injection h with h; rw [h1, h]
  · cases h
theorem dread_bad (s : List UInt8) (w : World) (hs : s.length ≤ 4096) (h : progOfText s = none) :
    Calls Tryz.prog 7 #[S s] w fun e w' => e = .returned (Pr (.slice none 0 0) (I 1)) ∧ Ext w w' := by
  rcases prog_none_read h with h | ⟨t, r, h, h0⟩
  · exact read_none s w hs h
  · exact read_more s w hs t r h h0
theorem dread_good (s : List UInt8) (w : World) (hs : s.length ≤ 4096) {t : Tr} (h : progOfText s = some t) :
    Calls Tryz.prog 7 #[S s] w fun e w' => ∃ A c, e = .returned (Pr (.slice A t.size c) (I 0)) ∧ SlN w' A t.size t.flat ∧ t.size ≤ c ∧ c ≤ maxLen ∧ Ext w w' := read_ok s w hs t (prog_some_read h)
theorem suffix_last {t : List UInt8} (h : t ≠ []) : [10].isSuffixOf t = decide (t.getLast? = some 10) := by
  rw [Bool.eq_iff_iff, decide_eq_true_eq, List.isSuffixOf_iff_suffix]
  constructor
  · rintro ⟨a, rfl⟩; simp
  · intro hl
    obtain ⟨a, b, rfl⟩ : ∃ a b, t = a ++ [b] := ⟨t.dropLast, t.getLast h, (List.dropLast_concat_getLast h).symm⟩
    simp at hl; subst hl
    exact ⟨a, rfl⟩
theorem trim_line (x : List UInt8) : Lib.trimSuffix (x ++ [10]) [10] = x := by
  unfold Lib.trimSuffix
  rw [if_pos (by unfold Lib.hasSuffix; rw [List.isSuffixOf_iff_suffix]; exact ⟨x, rfl⟩)]
  simp
set_option maxHeartbeats 4000000 in
theorem dplay_bad (s t : List UInt8) (w : World) (hs : s.length ≤ maxLen) (ht : t.length ≤ maxLen) (hE : playE s t ≠ 0) :
    Calls Tryz.prog 4 #[S s, S t] w fun e w' => e = .returned (Pr (S []) (I (playE s t))) ∧ Ext w w' := by
  unfold playE at hE ⊢
  by_cases h1 : 4096 < s.length
  · rw [if_pos h1]
    have H := Lib.hid (read_many s w h1 hs)
    clear hE hs ht h1
    go_enter Tryz.func4, Tryz.ntmps4
    go_wp2_with fail
    refine H.out.mono ?_; rintro e w1 ⟨rfl, x1⟩
    go_wp2
    go_ret2
    exact ⟨rfl, x1⟩
  rw [if_neg h1] at hE ⊢
  by_cases h2 : progOfText s = none
  · rw [if_pos h2]
    have H := Lib.hid (dread_bad s w (by omega) h2)
    clear hE hs ht h1 h2
    go_enter Tryz.func4, Tryz.ntmps4
    go_wp2_with fail
    refine H.out.mono ?_; rintro e w1 ⟨rfl, x1⟩
    go_wp2
    go_ret2
    exact ⟨rfl, x1⟩
  rw [if_neg h2] at hE ⊢
  obtain ⟨q, hq⟩ : ∃ q, progOfText s = some q := by
    cases hh : progOfText s with
    | none => exact absurd hh h2
    | some q => exact ⟨q, rfl⟩
  have H := Lib.hid (dread_good s w (by omega) hq)
  by_cases h3 : 4096 < t.length ∨ 40 < t.count 10
  · rw [if_pos h3]
    have ht' : t.length ≤ 9223372036854775807 := ht
    by_cases h4 : 4096 < t.length
    · clear hE hs ht h1 h2 h3 hq
      go_enter Tryz.func4, Tryz.ntmps4
      go_wp2_with fail
      refine H.out.mono ?_; rintro e w1 ⟨A, c, rfl, -, -, -, x1⟩
      have X1 := Lib.hid x1; clear x1
      have hgt : (decide ((((⟨t.toArray⟩ : ByteArray).size : Nat) : Int) > 4096)) = true := by show decide (((t.length : Nat) : Int) > 4096) = true; exact decide_eq_true (by omega)
      go_wp2_with fail
      go_ret2
      exact ⟨rfl, X1.out⟩
    · have h5 : 40 < t.count 10 := h3.resolve_left h4
      clear hE hs ht h1 h2 h3 hq
      go_enter Tryz.func4, Tryz.ntmps4
      go_wp2_with fail
      refine H.out.mono ?_; rintro e w1 ⟨A, c, rfl, -, -, -, x1⟩
      have X1 := Lib.hid x1; clear x1
      go_wp2_with fail
      refine (count_nl t w1).mono ?_; rintro e w' ⟨rfl, rfl⟩
      go_wp2_with fail
      go_ret2
      exact ⟨rfl, X1.out⟩
  rw [if_neg h3] at hE ⊢
  have h3a : t.length ≤ 4096 := by omega
  have h3b : t.count 10 ≤ 40 := by omega
  by_cases h6 : t ≠ [] ∧ t.getLast? ≠ some 10
  · rw [if_pos h6]
    have hsf := suffix_last h6.1
    rw [decide_eq_false h6.2] at hsf
    have HSF := Lib.hid hsf
    have hne : t.isEmpty = false := by cases t with | nil => exact absurd rfl h6.1 | cons _ _ => rfl
    clear hE hs ht h1 h2 h3 hq h6 hsf
    go_enter Tryz.func4, Tryz.ntmps4
    go_wp2_with fail
    refine H.out.mono ?_; rintro e w1 ⟨A, c, rfl, -, -, -, x1⟩
    have X1 := Lib.hid x1; clear x1
    go_wp2_with fail
    refine (count_nl t w1).mono ?_; rintro e w' ⟨rfl, rfl⟩
    go_wp2_with fail
    refine (suffix_any t [10] w1 (by omega)).mono ?_; rintro e w' ⟨rfl, rfl⟩; rw [HSF.out]
    go_wp2_with fail
    go_ret2
    exact ⟨rfl, X1.out⟩
  · rw [if_neg h6] at hE; exact absurd rfl hE
end Go.Proofs.YtgohhcnmkomafaaGreatDoor
/- What holds between two lines of a script that is played. -/
namespace Go.Proofs.YtgohhcnmkomafaaGreatDoor
set_option linter.unusedVariables false
set_option linter.unusedSimpArgs false
set_option maxRecDepth 100000
open Go.RowKit Go.Shelf
theorem lines_any (t : List UInt8) (w : World) : Calls Tryz.prog 11 #[S t] w fun e w' => e = .returned (.func (.func 33) #[] #[.pointer (some ⟨w.heap.size, 0, none⟩)]) ∧ w' = w.alloc (.cells #[S t] 9) := by
  have hmf := makeFunc_anyR
  go_enter Tryz.func11, Tryz.ntmps11
  go_wp2
  go_ret
  exact ⟨rfl, rfl⟩
theorem flat_pos (q : Tr) : 0 < q.size := by cases q <;> simp only [Tr.size] <;> omega
/-- Blocks whose first cells differ are two. -/
theorem ne_of_cell {w : World} {a b : Nat} {x y : Value} (h : w.cell? ⟨a, 0, none⟩ = some x) (k : w.cell? ⟨b, 0, none⟩ = some y) (hne : x ≠ y) : a ≠ b := fun e => by
  subst e; rw [h] at k; exact hne (Option.some.inj k)
theorem RestC.first {w : World} {fr : Bool} {g1 g2 n : Nat} {wc oc : Nat} {r : RestM} (h : RestC w fr (some ⟨g1, 0, none⟩) n wc (some ⟨g2, 0, none⟩) 3 oc r) (hn : 0 < n) : (∃ x, w.cell? ⟨g1, 0, none⟩ = some (Bv x)) ∧ ∃ x, w.cell? ⟨g2, 0, none⟩ = some (Bv x) := by
  constructor
  · obtain ⟨b, o, x, e, hc, -⟩ := h.waits.at_ (k := 0) hn
    injection e with e; injection e with e1 e2; subst e1; subst e2
    exact ⟨x, by simpa using hc⟩
  · obtain ⟨b, o, x, e, hc, -⟩ := h.outs.at_ (k := 0) (by omega)
    injection e with e; injection e with e1 e2; subst e1; subst e2
    exact ⟨x, by simpa using hc⟩
/-- The bytes of a builder lie in no block that begins otherwise. -/
theorem buf_ne {w : World} {B : Nat} {v : Value} {n : Nat} {bs : List UInt8} (h : w.ownsRow B BE 1 v n (Lib.byteCells bs)) (h0 : bs = [] → v = .slice none 0 0) {k : Nat} {u : Value} (hk : w.cell? ⟨k, 0, none⟩ = some u) (hu : ∀ i, u ≠ .int .u8 i) : v.ownBlock ≠ some k := fun e => by
  cases bs with
  | nil => rw [h0 rfl] at e; simp [Value.ownBlock] at e
  | cons c bs =>
    rcases h.2 with ⟨rfl, _⟩ | ⟨g, cap, cur, rfl, _, hg, _, _, _, ht⟩
    · simp [Value.ownBlock] at e
    · have e2 : g = k := Option.some.inj e
      subst e2
      have hc : w.cell? ⟨g, 0, none⟩ = cur[0]? := Lib.cell_of_heap hg 0
      rw [hk] at hc
      have h1 : (cur.toList.take (n * 1))[0]? = some (.int .u8 c.toNat) := by rw [ht]; rfl
      rw [List.getElem?_take] at h1
      split at h1
      · have h2 : cur[0]? = some (.int .u8 c.toNat) := by simpa using h1
        rw [h2] at hc
        exact hu _ (Option.some.inj hc)
      · cases h1
structure PlayI (w : World) (D V Bd SB : Nat) (PA : Option Addr) (n pc : Nat) (q : Tr) (pre : List (List UInt8)) (W : World) : Prop where
  tbl : ∃ fr p1 p2, TblW W D PA n pc q (afterL q (freshM q.size) pre) fr p1 p2
  var : Box W V 31 [.pointer (some ⟨D, 0, none⟩)]
  bld : Lib.IsBuilder BT BE Bd Bd (Lib.byteCells (playL q (freshM q.size) pre)) W
  bl0 : pre = [] → W.cell? ⟨Bd, 1, none⟩ = some (.slice none 0 0)
  str : ∃ v, Box W SB 9 [S v]
  ext : Ext w W
theorem PlayI.kept {w : World} {D V Bd SB : Nat} {PA : Option Addr} {n pc : Nat} {q : Tr} {pre : List (List UInt8)} {W W' : World} {row : Option Nat} (h : PlayI w D V Bd SB PA n pc q pre W) (hn : n = q.size) (hx : Ext w W') (hg : W.grownBy W' row)
    (hrow : ∀ r, row = some r → r = SB ∨ ∃ o : Obj, W.heap[r]? = some o ∧ o.isCells = false) (hs : ∃ v, Box W' SB 9 [S v]) (e1 : D ≠ SB) (e2 : V ≠ SB) (e3 : Bd ≠ SB) (e4 : ∀ a, PA = some a → a.block ≠ SB) : PlayI w D V Bd SB PA n pc q pre W' := by
  have hsame : ∀ k o, W.heap[k]? = some o → o.isCells = true → k ≠ SB → W'.heap[k]? = some o := fun k o hk hc hne => by
    rw [hg.block k (Array.getElem?_eq_some_iff.1 hk).1 (fun e => ?_)]
    · exact hk
    · rcases hrow k e.symm with e' | ⟨o', ho', hc'⟩
      · exact hne e'
      · rw [hk] at ho'; injection ho' with ho'; subst ho'; rw [hc] at hc'; cases hc'
  have hcell : ∀ (p : Addr) v, W.cell? p = some v → p.block ≠ SB → W'.cell? p = some v := fun p v hv hne => by
    obtain ⟨o, ho, hc⟩ := cells_of_cell hv
    exact (World.cell?_of_block ((hsame _ _ ho hc hne).trans ho.symm)).trans hv
  obtain ⟨fr, p1, p2, ht⟩ := h.tbl
  obtain ⟨v0, hv0⟩ := h.str
  have hc0 : W.cell? ⟨SB, 0, none⟩ = some (S v0) := (hv0.cell 0).trans rfl
  obtain ⟨⟨x1, f1⟩, ⟨x2, f2⟩⟩ := ht.rest.first (by rw [hn]; exact flat_pos q)
  have n1 : p1 ≠ SB := ne_of_cell f1 hc0 (by simp [S])
  have n2 : p2 ≠ SB := ne_of_cell f2 hc0 (by simp [S])
  refine ⟨⟨fr, p1, p2, hsame _ _ ht.box rfl e1, ht.rest.grown2 (row := none) (fun k o hk hkk => ?_), ⟨ht.nodes.1, fun k x hx => ?_⟩, ht.d1, ht.d2, ht.dp⟩, hsame _ _ h.var rfl e2, ?_, fun e => hcell ⟨Bd, 1, none⟩ _ (h.bl0 e) e3, hs, hx⟩
  · rcases hkk with rfl | rfl
    · obtain ⟨o', ho', hc'⟩ := cells_of_cell f1
      simp only at ho'; rw [hk] at ho'; injection ho' with ho'; subst ho'
      exact hsame _ _ hk hc' n1
    · obtain ⟨o', ho', hc'⟩ := cells_of_cell f2
      simp only at ho'; rw [hk] at ho'; injection ho' with ho'; subst ho'
      exact hsame _ _ hk hc' n2
  · obtain ⟨b, off, e, c0, c1⟩ := ht.nodes.2 k x hx
    have hb := e4 _ e
    exact ⟨b, off, e, hcell _ _ c0 hb, hcell _ _ c1 hb⟩
  · have one : ∀ p, Lib.BuilderAt BT BE Bd Bd p (Lib.byteCells (playL q (freshM q.size) pre)) W → Lib.BuilderAt BT BE Bd Bd p (Lib.byteCells (playL q (freshM q.size) pre)) W' := fun p hb => by
      obtain ⟨hB, v, hbk, hown, hne⟩ := hb
      refine ⟨hB, v, hsame _ _ hbk rfl e3, hown.kept hg ?_, hne⟩
      cases hob : v.ownBlock with
      | none => exact .inl rfl
      | some g =>
        right
        intro e
        rcases hrow g e.symm with rfl | ⟨o, ho, hc⟩
        · exact hv0.apart hown (by decide) hob
        · rcases hown.2 with ⟨rfl, _⟩ | ⟨g', cap, cur, rfl, _, hgg, _⟩
          · simp [Value.ownBlock] at hob
          · have : g' = g := Option.some.inj hob
            subst this
            rw [hgg] at ho; injection ho with ho; subst ho; cases hc
    rcases h.bld with hb | hb
    · exact .inl (one _ hb)
    · exact .inr (one _ hb)
theorem IsB.grown {W w2 : World} {D Bd : Nat} {cs : List Value} {bs : List Value} (h : Lib.IsBuilder BT BE Bd Bd bs W) (hD : Box W D 37 cs) (hg : W.grownBy w2 (some D)) (hne : Bd ≠ D) : Lib.IsBuilder BT BE Bd Bd bs w2 := by
  have one : ∀ p, Lib.BuilderAt BT BE Bd Bd p bs W → Lib.BuilderAt BT BE Bd Bd p bs w2 := fun p hb => by
    obtain ⟨hB, v, hbk, hown, hne'⟩ := hb
    exact ⟨hB, v, by rw [hg.block Bd (Array.getElem?_eq_some_iff.1 hbk).1 (fun e => hne (Option.some.inj e))]; exact hbk, hown.kept hg (.inr (hD.apart hown (by decide))), hne'⟩
  rcases h with h | h
  · exact .inl (one _ h)
  · exact .inr (one _ h)
theorem byteCells_app (a b : List UInt8) : Lib.byteCells (a ++ b) = Lib.byteCells a ++ Lib.byteCells b := by simp [Lib.byteCells]
theorem PlayI.next {w : World} {D V Bd SB : Nat} {PA : Option Addr} {n pc : Nat} {q : Tr} {pre : List (List UInt8)} {x : List UInt8} {W w2 w3 : World} (h : PlayI w D V Bd SB PA n pc q pre W) (hn : n = q.size)
    {fr : Bool} {p1 p2 : Nat} (htb : TblW w2 D PA n pc q (stepL q (afterL q (freshM q.size) pre) x).1 fr p1 p2) (hg : W.grownBy w2 (some D))
    (hb : Lib.BuilderAt BT BE Bd Bd (.pointer (some ⟨Bd, 0, none⟩)) (Lib.byteCells (playL q (freshM q.size) pre) ++ Lib.byteCells ((stepL q (afterL q (freshM q.size) pre) x).2 ++ [10])) w3) (hbel : Below Bd w2 w3) (hk : KeptB Bd w2 w3)
    (wD : w.heap.size ≤ D) (DB : D < Bd) (VB : V < Bd) (DV : D ≠ V) (SD : SB ≠ D) (SBB : SB ≠ Bd) (PB : ∀ a, PA = some a → a.block < Bd) :
    KeepsOthers W w3 ∧ KeptC SB W w3 ∧ PlayI w D V Bd SB PA n pc q (pre ++ [x]) w3 := by
  obtain ⟨v0, hv0⟩ := h.str
  have hs2 : Box w2 SB 9 [S v0] := by
    show w2.heap[SB]? = _
    rw [hg.block SB hv0.lt (fun e => SD (Option.some.inj e))]; exact hv0
  have hsz : W.heap.size ≤ w2.heap.size := hg.size
  -- the builder at w2
  obtain ⟨hBB, vb, hvb, hown⟩ : Bd ≤ Bd ∧ ∃ vb, W.cell? ⟨Bd, 1, none⟩ = some vb ∧ W.ownsRow Bd BE 1 vb (Lib.byteCells (playL q (freshM q.size) pre)).length (Lib.byteCells (playL q (freshM q.size) pre)) := by
    rcases h.bld with hb' | hb' <;>
    · obtain ⟨hB, v, hbk, hown, -⟩ := hb'
      exact ⟨hB, v, by rw [Lib.cell_of_heap hbk]; rfl, hown⟩
  obtain ⟨frW, pW1, pW2, htW⟩ := h.tbl
  have hDbox := htW.box
  have hown2 : w2.ownsRow Bd BE 1 vb (Lib.byteCells (playL q (freshM q.size) pre)).length (Lib.byteCells (playL q (freshM q.size) pre)) := hown.kept hg (.inr (hDbox.apart hown (by decide)))
  have hvb2 : w2.cell? ⟨Bd, 1, none⟩ = some vb := by
    have hl := lt_of_cell hvb
    exact (World.cell?_of_block (a := ⟨Bd, 1, none⟩) (hg.block Bd hl (fun e => by have := Option.some.inj e; omega))).trans hvb
  have hnil : playL q (freshM q.size) pre = [] → vb = .slice none 0 0 := fun e => by
    have : pre = [] := by
      cases pre with
      | nil => rfl
      | cons a b => simp [playL] at e
    have h1 := h.bl0 this
    rw [hvb] at h1; exact Option.some.inj h1
  -- what the write keeps
  have keep : ∀ (k : Nat) (u : Value), w2.cell? ⟨k, 0, none⟩ = some u → (∀ i, u ≠ .int .u8 i) → k ≠ Bd → w3.heap[k]? = w2.heap[k]? := fun k u hu hne hkb => by
    have hlt := lt_of_cell hu
    obtain ⟨o, ho⟩ : ∃ o, w2.heap[k]? = some o := ⟨_, Array.getElem?_eq_getElem hlt⟩
    rw [ho]
    refine hk k o ho hkb (fun v hv => ?_)
    rw [hvb2] at hv; obtain rfl := Option.some.inj hv
    exact buf_ne hown2 hnil hu hne
  obtain ⟨⟨x1, f1⟩, ⟨x2, f2⟩⟩ := htb.rest.first (by rw [hn]; exact flat_pos q)
  have hB2c : ∃ p, w2.cell? ⟨Bd, 0, none⟩ = some (.pointer p) := by
    have h0 : ∃ p, W.cell? ⟨Bd, 0, none⟩ = some (.pointer p) := by
      rcases h.bld with hb' | hb'
      · exact ⟨_, hb'.cell0⟩
      · exact ⟨_, hb'.cell0⟩
    obtain ⟨p, hp⟩ := h0
    have hl := lt_of_cell hp
    exact ⟨p, (World.cell?_of_block (a := ⟨Bd, 0, none⟩) (hg.block Bd hl (fun e => by have := Option.some.inj e; omega))).trans hp⟩
  obtain ⟨pb, hpb⟩ := hB2c
  have n1 : p1 ≠ Bd := ne_of_cell f1 hpb (by simp)
  have n2 : p2 ≠ Bd := ne_of_cell f2 hpb (by simp)
  have k1 := keep p1 _ f1 (by simp) n1
  have k2 := keep p2 _ f2 (by simp) n2
  have kS := keep SB _ ((hs2.cell 0).trans rfl) (by simp [S]) SBB
  have hx2 : Ext w w2 := ⟨hg.os.trans h.ext.os, hg.tape.trans h.ext.tape, hg.output.trans h.ext.output, Nat.le_trans h.ext.size hg.size, fun k hk => (hg.block k (Nat.lt_of_lt_of_le hk h.ext.size) (fun e => by have := Option.some.inj e; omega)).trans (h.ext.block k hk)⟩
  have hx3 : Ext w w3 := Below.trans (show Below w.heap.size w w2 from hx2) (Below.mono hbel (by omega))
  refine ⟨⟨Nat.le_trans hsz hbel.size, fun k o ho hc => ?_⟩, fun v hv => ?_, ⟨⟨fr, p1, p2, ?_⟩, ?_, ?_, ?_, ⟨v0, ?_⟩, hx3⟩⟩
  · have hlt := (Array.getElem?_eq_some_iff.1 ho).1
    have hkD : k ≠ D := fun e => by subst e; have := htW.box; unfold Box at this; rw [this] at ho; injection ho with ho; subst ho; cases hc
    have h2 : w2.heap[k]? = some o := by rw [hg.block k hlt (fun e => hkD (Option.some.inj e))]; exact ho
    refine hk k o h2 (fun e => ?_) (fun v hv e => ?_)
    · subst e
      obtain ⟨o', ho', hc'⟩ := cells_of_cell hpb
      simp only at ho'; rw [h2] at ho'; injection ho' with ho'; subst ho'; rw [hc] at hc'; cases hc'
    · rw [hvb2] at hv; obtain rfl := Option.some.inj hv
      rcases hown2.2 with ⟨rfl, _⟩ | ⟨g, cap, cur, rfl, _, hgg, _⟩
      · simp [Value.ownBlock] at e
      · have : g = k := Option.some.inj e
        subst this
        rw [h2] at hgg; injection hgg with hgg; subst hgg; cases hc
  · have hbk : w3.heap[SB]? = W.heap[SB]? := by rw [kS, hg.block SB hv0.lt (fun e => SD (Option.some.inj e))]
    exact ⟨(World.cell?_of_block (a := ⟨SB, 0, none⟩) hbk).trans hv, World.frozen?_of_block (a := ⟨SB, 0, none⟩) hbk⟩
  · rw [afterL_snoc]
    exact ⟨(hbel.block D DB).trans htb.box, htb.rest.grown2 (row := none) (fun k o ho hkk => by
      rcases hkk with rfl | rfl
      · rw [k1]; exact ho
      · rw [k2]; exact ho), ⟨htb.nodes.1, fun k y hy => by
        obtain ⟨b, off, e, c0, c1⟩ := htb.nodes.2 k y hy
        have hb' := hbel.block b (PB _ e)
        exact ⟨b, off, e, (World.cell?_of_block (a := ⟨b, _, none⟩) hb').trans c0, (World.cell?_of_block (a := ⟨b, _, none⟩) hb').trans c1⟩⟩, htb.d1, htb.d2, htb.dp⟩
  · show w3.heap[V]? = _
    rw [hbel.block V VB, hg.block V h.var.lt (fun e => DV (Option.some.inj e).symm)]; exact h.var
  · rw [playL_snoc, byteCells_app]; exact .inr hb
  · intro e; simp at e
  · show w3.heap[SB]? = _
    rw [kS]; exact hs2
end Go.Proofs.YtgohhcnmkomafaaGreatDoor
/- How a play begins, and what it keeps: the world. -/
namespace Go.Proofs.YtgohhcnmkomafaaGreatDoor
set_option linter.unusedVariables false
set_option linter.unusedSimpArgs false
set_option maxRecDepth 100000
open Go.RowKit Go.Shelf
theorem PlayI.start {w w1 w3 W : World} {A : Option Addr} {q : Tr} {c g1 g2 : Nat} {t : List UInt8} (hx : Ext w w3) (hx1 : Ext w1 w3) (sl : SlN w1 A q.size q.flat) (hs : q.size ≤ 14)
    (ho1 : w3.ownsRow w1.heap.size 4 1 (.slice (some ⟨g1, 0, none⟩) q.size q.size) q.size ((List.replicate q.size false).map Bv)) (ho2 : w3.ownsRow w1.heap.size 4 1 (.slice (some ⟨g2, 0, none⟩) 3 3) 3 (([false, false, false] : List Bool).map Bv))
    (hW : W = (((w3.alloc (.cells #[.slice A q.size c, Bv true, .slice (some ⟨g1, 0, none⟩) q.size q.size, .slice (some ⟨g2, 0, none⟩) 3 3] 37)).alloc (.cells #[.pointer (some ⟨w3.heap.size, 0, none⟩)] 31)).alloc (.cells #[.pointer none, .slice none 0 0] 41)).alloc (.cells #[S t] 9)) :
    PlayI w w3.heap.size (w3.heap.size + 1) (w3.heap.size + 1 + 1) (w3.heap.size + 1 + 1 + 1) A q.size c q [] W ∧ (∀ a, A = some a → a.block < w3.heap.size) ∧ W.cell? ⟨w3.heap.size + 1 + 1 + 1, 0, none⟩ = some (S t) ∧ W.frozen? ⟨w3.heap.size + 1 + 1 + 1, 0, none⟩ = false ∧ W.heap.size = w3.heap.size + 1 + 1 + 1 + 1 := by
  obtain ⟨wa, ha⟩ : ∃ x, x = w3.alloc (.cells #[.slice A q.size c, Bv true, .slice (some ⟨g1, 0, none⟩) q.size q.size, .slice (some ⟨g2, 0, none⟩) 3 3] 37) := ⟨_, rfl⟩
  have ba : Box wa w3.heap.size 37 [.slice A q.size c, Bv true, .slice (some ⟨g1, 0, none⟩) q.size q.size, .slice (some ⟨g2, 0, none⟩) 3 3] := by rw [ha]; exact Box.new w3 _ _
  have xa : Ext w3 wa := by rw [ha]; exact (Ext.refl _).alloc _
  have sa : wa.heap.size = w3.heap.size + 1 := by rw [ha, World.size_alloc]
  rw [← ha] at hW
  obtain ⟨wb, hb⟩ : ∃ x, x = wa.alloc (.cells #[.pointer (some ⟨w3.heap.size, 0, none⟩)] 31) := ⟨_, rfl⟩
  have bb : Box wb (w3.heap.size + 1) 31 [.pointer (some ⟨w3.heap.size, 0, none⟩)] := by rw [hb, ← sa]; exact Box.new wa _ _
  have xb : Ext wa wb := by rw [hb]; exact (Ext.refl _).alloc _
  have sb : wb.heap.size = w3.heap.size + 1 + 1 := by rw [hb, World.size_alloc, sa]
  rw [← hb] at hW
  obtain ⟨wc, hc⟩ : ∃ x, x = wb.alloc (.cells #[.pointer none, .slice none 0 0] 41) := ⟨_, rfl⟩
  have bc : Box wc (w3.heap.size + 1 + 1) 41 [.pointer none, .slice none 0 0] := by rw [hc, ← sb]; exact Box.new wb _ _
  have xc : Ext wb wc := by rw [hc]; exact (Ext.refl _).alloc _
  have sc : wc.heap.size = w3.heap.size + 1 + 1 + 1 := by rw [hc, World.size_alloc, sb]
  rw [← hc] at hW
  have bd : Box W (w3.heap.size + 1 + 1 + 1) 9 [S t] := by rw [hW, ← sc]; exact Box.new wc _ _
  have xd : Ext wc W := by rw [hW]; exact (Ext.refl _).alloc _
  have sd : W.heap.size = w3.heap.size + 1 + 1 + 1 + 1 := by rw [hW, World.size_alloc, sc]
  clear ha hb hc hW
  have xW : Ext w3 W := ((xa.trans xb).trans xc).trans xd
  have hrr : RestC w3 true (some ⟨g1, 0, none⟩) q.size q.size (some ⟨g2, 0, none⟩) 3 3 (freshM q.size) := by
    obtain ⟨A1, c1, f1, -, -, s1⟩ := own_sl ho1
    obtain ⟨A2, c2, f2, -, -, s2⟩ := own_sl ho2
    injection f1 with f1 _ _; subst f1
    injection f2 with f2 _ _; subst f2
    exact ⟨rfl, s1, s2, ⟨Nat.le_refl _, by unfold maxLen; omega⟩, ⟨Nat.le_refl _, by unfold maxLen; omega⟩⟩
  obtain ⟨⟨x1, c1⟩, ⟨x2, c2⟩⟩ := hrr.first (flat_pos q)
  have l1 : g1 < w3.heap.size := lt_of_cell c1
  have l2 : g2 < w3.heap.size := lt_of_cell c2
  have hA : ∀ a, A = some a → a.block < w3.heap.size := fun a e => by
    cases hf : q.flat with
    | nil => have := flat_pos q; rw [← flat_size, hf] at this; simp at this
    | cons y ys =>
      obtain ⟨b, off, e', k0, -⟩ := sl.2 0 y (by rw [hf]; rfl)
      rw [e'] at e; injection e with e; subst e
      exact Nat.lt_of_lt_of_le (lt_of_cell k0) hx1.size
  refine ⟨⟨⟨true, g1, g2, ((ba.ext xb).ext xc).ext xd, hrr.keep xW.keeps, sl.keep (hx1.trans xW).keeps, by omega, by omega, fun a e => by have := hA a e; omega⟩, (bb.ext xc).ext xd, ?_, fun _ => ?_, ⟨_, bd⟩, hx.trans xW⟩, hA, (bd.cell 0).trans rfl, bd.free 0, sd⟩
  · exact .inl ⟨Nat.le_refl _, .slice none 0 0, bc.ext xd, World.ownsRow_nil _ _ _ _, by simp [Value.ownBlock]⟩
  · exact ((bc.ext xd).cell 1).trans rfl
section
variable {w : World} {D V Bd SB : Nat} {PA : Option Addr} {n pc : Nat} {q : Tr} {pre : List (List UInt8)} {W : World}
theorem PlayI.setS (h : PlayI w D V Bd SB PA n pc q pre W) (hn : n = q.size) (hS : w.heap.size ≤ SB) (e1 : D ≠ SB) (e2 : V ≠ SB) (e3 : Bd ≠ SB) (e4 : ∀ a, PA = some a → a.block ≠ SB) (v : List UInt8) :
    PlayI w D V Bd SB PA n pc q pre (W.setCell ⟨SB, 0, none⟩ (S v)) := by
  obtain ⟨v0, hv0⟩ := h.str
  exact h.kept hn (h.ext.setCell (p := ⟨SB, 0, none⟩) hS _) (grown_set _ SB 0 _) (fun r e => .inl (Option.some.inj e).symm) ⟨v, hv0.set 0 (S v)⟩ e1 e2 e3 e4
theorem PlayI.drew (h : PlayI w D V Bd SB PA n pc q pre W) (hn : n = q.size) (e1 : D ≠ SB) (e2 : V ≠ SB) (e3 : Bd ≠ SB) (e4 : ∀ a, PA = some a → a.block ≠ SB) : PlayI w D V Bd SB PA n pc q pre W.drew :=
  h.kept hn h.ext.drew (row := none) ((Ext.refl W).drew.grown _) (fun r e => by cases e) h.str e1 e2 e3 e4
end
theorem PlayI.ownFrom {w : World} {D V Bd SB : Nat} {PA : Option Addr} {n pc : Nat} {q : Tr} (hn : n = q.size) (e1 : D ≠ SB) (e2 : V ≠ SB) (e3 : Bd ≠ SB) (e4 : ∀ a, PA = some a → a.block ≠ SB) {B : Nat} (hB : w.heap.size ≤ B) :
    OwnFrom B (fun pre W => PlayI w D V Bd SB PA n pc q pre W) := fun pre W W' row h hg hr => by
  obtain ⟨v0, hv0⟩ := h.str
  refine h.kept hn (Below.grown h.ext hg h.ext.size (fun k e => Nat.le_trans hB (hr k e).1)) hg (fun r e => .inr (hr r e).2) ⟨v0, ?_⟩ e1 e2 e3 e4
  show W'.heap[SB]? = _
  rw [hg.block SB hv0.lt (fun e => ?_)]
  · exact hv0
  · obtain ⟨o, ho, hc⟩ := (hr SB e.symm).2
    unfold Box at hv0; rw [hv0] at ho; injection ho with ho; subst ho; cases hc
theorem str_kept (B b : Nat) (l : List UInt8) (w : World) (h : Lib.IsBuilder BT BE B b (Lib.byteCells l) w) (hBw : B ≤ w.heap.size) :
    Calls Tryz.prog 15 #[.pointer (some ⟨b, 0, none⟩)] w fun e w' => e = .returned (S l) ∧ Below B w w' ∧ Lib.OthersKept BE (some b) w w' :=
  (Any.Builder_String_any_k Tryz.lays169 Tryz.Builder_Extra_169 B b l w (Lib.IsBuilderF.of h) hBw).mono (fun e w' h => ⟨h.1, h.2.2.1, h.2.2.2⟩)
end Go.Proofs.YtgohhcnmkomafaaGreatDoor
/- Play of a good script, by the program. -/
namespace Go.Proofs.YtgohhcnmkomafaaGreatDoor
set_option linter.unusedVariables false
set_option linter.unusedSimpArgs false
set_option maxRecDepth 100000
open Go.RowKit Go.Shelf
attribute [local go_sem] Oper.semAt_some
set_option maxHeartbeats 8000000 in
theorem dplay_in (s t : List UInt8) (q : Tr) (m : Int) (w : World) (hm : w.cell? ⟨0, 0, none⟩ = some (.int .i64 m)) (hs : s.length ≤ 4096) (hq : progOfText s = some q) (h3a : t.length ≤ 4096) (h3b : t.count 10 ≤ 40) (h6 : t = [] ∨ t.getLast? = some 10) :
    CallsIn Fence.wide 9 Tryz.prog 4 #[S s, S t] w fun e w' => e = .returned (Pr (S (playL q (freshM q.size) (linesFrom [] t))) (I 0)) ∧ Ext w w' := by
  obtain ⟨-, ok, hg, hsz⟩ := progOf_some hq
  have H := Lib.hid (dread_good s w hs hq)
  have HML := Lib.hid hm; have HOK := Lib.hid ok; have HG := Lib.hid hg; have HS := Lib.hid hsz; have HEND := Lib.hid h6
  clear hm ok hg hsz hq hs h6
  refine callsIn_of_wp_marks Tryz.func4 rfl trivial ?_ rfl
  simp only [Tryz.ntmps4, List.size_toArray, List.length_cons, List.length_nil, Nat.reduceAdd, Nat.reduceSub, Array.replicate_succ, Array.replicate_zero, List.push_toArray, List.append_toArray, List.nil_append, List.cons_append]
  gi_wp2_with fail
  refine ⟨trivial, (callsIn_wide.2 H.out).mono ?_⟩; rintro e w1 ⟨A, c, rfl, sl, k1, k2, x1⟩
  have SL := Lib.hid sl; have X1 := Lib.hid x1; have K1 := Lib.hid k1; have K2 := Lib.hid k2
  clear sl x1 k1 k2 H
  gi_wp2_with fail
  refine ⟨trivial, (callsIn_wide.2 (count_nl t w1)).mono ?_⟩; rintro e w' ⟨rfl, rfl⟩
  have hemp : t.isEmpty = true ∨ (t.isEmpty = false ∧ [10].isSuffixOf t = true) := by
    cases t with
    | nil => exact .inl rfl
    | cons a b =>
      right
      refine ⟨rfl, ?_⟩
      rw [suffix_last (by simp), decide_eq_true_eq]
      rcases HEND.out with h | h
      · cases h
      · exact h
  have hmx : Tryz.prog.follows .mixedOrders = true := by kernel_rfl
  rcases hemp with hemp | ⟨hemp, hsf⟩
  · gi_wp2_with fail
    refine ⟨trivial, ?_⟩
    gi_wp2_with fail
    refine ⟨trivial, (callsIn_wide.2 (fresh_any A q.size c w1 HS.out)).mono ?_⟩; rintro e w3 ⟨g1, g2, rfl, hg1, hg2, hgn, ho1, ho2, x3⟩
    have STT := Lib.hid (PlayI.start (c := c) (t := t) (X1.out.trans x3) x3 SL.out HS.out ho1 ho2 rfl)
    have HX13 := Lib.hid x3; clear hg1 hg2 hgn ho1 ho2 x3
    gi_wp2_with fail
    refine ⟨trivial, (callsIn_wide.2 (lines_any t _)).mono ?_⟩; rintro e w5 ⟨rfl, h5⟩
    rw [World.size_alloc, World.size_alloc, World.size_alloc]
    obtain ⟨h0, hPA, hc0, hf0, hsz⟩ := STT.out
    simp only [S] at h5
    rw [← h5] at h0 hc0 hf0 hsz
    clear h5 STT
    obtain ⟨D, hD⟩ : ∃ D, D = w3.heap.size := ⟨_, rfl⟩
    rw [← hD] at h0 hPA hc0 hf0 hsz ⊢
    have hwD : w.heap.size ≤ D := by rw [hD]; exact Nat.le_trans X1.out.size HX13.out.size
    clear hD
    gi_wp2
    refine wpIn_rangeFunc_cell (by omega) (gf := 33) (lb := #[.pointer (some ⟨D + 1 + 1 + 1, 0, none⟩)]) rfl (enters_of Tryz.func33 (by kernel_rfl) rfl)
      (encs := fun x : List UInt8 => #[S (x ++ [10])]) (fun _ => rfl) (D + 1 + 1 + 1) (by omega) (S t) hc0 hf0 (fun x => (10 : UInt8) ∉ x ∧ x.length ≤ 4096) (linesFrom [] t)
      (fun l J W hJs hJd hY hc hf hJ => lines_it 8 l (D + 1 + 1 + 1) (by omega) J t h3a HEND.out hJs hJd hY W hc hf hJ)
      (fun pre W => PlayI w D (D + 1) (D + 1 + 1) (D + 1 + 1 + 1) A q.size c q pre W)
      (PlayI.ownFrom rfl (by omega) (by omega) (by omega) (fun a e => by have := hPA a e; omega) (by omega))
      (fun pre W v u hI _ => hI.setS rfl (by omega) (by omega) (by omega) (by omega) (fun a e => by have := hPA a e; omega) v)
      (fun pre W hI => hI.drew rfl (by omega) (by omega) (by omega) (fun a e => by have := hPA a e; omega)) h0 (fun x => { tmps := #[S s, S t, undef, undef, .string ⟨#[]⟩, .int .i64 0, .slice A q.size c, I 0, .pointer (some ⟨D + 1, 0, none⟩), .pointer (some ⟨D + 1 + 1, 0, none⟩), S (x ++ [10]), Pr (.slice A q.size c) (I 0), S s, Pr (.slice A q.size c) (I 0), .slice A q.size c, I 0, I 0, .bool false, undef, S t, .int .i64 t.length, .bool (decide (4096 < (t.length : Int))), .bool (decide (4096 < (t.length : Int))), S t, I (List.count 10 t), .bool (decide (40 < (List.count 10 t : Int))), .bool (decide (4096 < (t.length : Int)) || decide (40 < (List.count 10 t : Int))), S t, .bool false, .bool false, undef, undef, undef, .bool false, .slice A q.size c, .slice A q.size c, .agg #[Bv true, .slice (some ⟨g1, 0, none⟩) q.size q.size, .slice (some ⟨g2, 0, none⟩) 3 3], .agg #[.slice A q.size c, Bv true, .slice (some ⟨g1, 0, none⟩) q.size q.size, .slice (some ⟨g2, 0, none⟩) 3 3], .pointer (some ⟨D, 0, none⟩), S t, .func (.func 33) #[] #[.pointer (some ⟨D + 1 + 1 + 1, 0, none⟩)], S (x ++ [10]), undef, undef, undef, undef, undef, undef, undef], defers := [] }) ?assign ?body ?done
    case assign =>
      intro l x W K hK
      gi_wp2
      exact hK
    case body =>
      intro l pre x W hI hx hpl
      have HI := Lib.hid hI; have HX := Lib.hid hx
      clear h0 hI hx hc0 hf0 hsz
      obtain ⟨fr, p1, p2, ht⟩ := HI.out.tbl
      have hcv : W.cell? ⟨D + 1, 0, none⟩ = some (.pointer (some ⟨D, 0, none⟩)) := (HI.out.var.cell 0).trans rfl
      have HT := Lib.hid ht
      clear ht
      have f14 : Fence.wide.fn 14 := trivial
      have f13 : Fence.wide.fn 13 := trivial
      have f12 : Fence.wide.fn 12 := trivial
      have hbig : (Lib.byteCells (playL q (freshM q.size) pre)).length + ((stepL q (afterL q (freshM q.size) pre) x).2 ++ [10]).length ≤ 140737488355328 := by
        have h1 := playL_len HOK.out HG.out HS.out pre _ (.start q)
        have h2 := stepL_len HS.out (RestOK.after HOK.out HG.out pre _ (.start q)).wl x
        simp only [Lib.byteCells, List.length_map, List.length_append, List.length_singleton]
        omega
      have hLN := dline_any D A q.size c q (afterL q (freshM q.size) pre) fr p1 p2 x m W.drew (HT.out.ext (Ext.refl W).drew) ((HI.out.ext.drew).keeps _ _ HML.out) HOK.out HG.out HS.out (RestOK.after HOK.out HG.out pre _ (.start q)) HX.out.2
      have hWS : ∀ w2, W.grownBy w2 (some D) → Calls Tryz.prog 12 #[.pointer (some ⟨D + 1 + 1, 0, none⟩), S ((stepL q (afterL q (freshM q.size) pre) x).2 ++ [10])] w2 _ := fun w2 hg2 =>
        wstr_any (D + 1 + 1) (D + 1 + 1) (Lib.byteCells (playL q (freshM q.size) pre)) ((stepL q (afterL q (freshM q.size) pre) x).2 ++ [10]) w2 (IsB.grown HI.out.bld HT.out.box hg2 (by omega)) hbig (by
          have h1 : D + 1 + 1 < W.heap.size := by
            rcases HI.out.bld with hb | hb
            · exact lt_of_cell hb.cell0
            · exact lt_of_cell hb.cell0
          have := hg2.size; omega)
      obtain ⟨g, hgs⟩ : ∃ g, g = (stepL q (afterL q (freshM q.size) pre) x).2 := ⟨_, rfl⟩
      rw [← hgs] at hWS hbig
      have HGS := Lib.hid hgs
      have HLN := Lib.hid hLN; have HWS := Lib.hid hWS
      have hap : (⟨g.toArray⟩ : ByteArray) ++ ⟨#[10]⟩ = ⟨(g ++ [10]).toArray⟩ := str_app g [10]
      have hgl : ¬ (9223372036854775807 < g.length + 1) := by
        have : g.length + 1 ≤ 140737488355328 := by simp only [List.length_append, List.length_singleton] at hbig; omega
        omega
      clear hgs hLN hWS hbig
      dsimp only
      gi_wp2_with fail
      gi_region_with_o (first
        | (gi_at_call 14; (with_reducible refine (CallsIn.inRound l (callsIn_wide.2 (trim_any (x ++ [10]) [10] _ ?hl))).mono ?_)
           case hl => simp; have := HX.out.2; omega
           rintro e w' ⟨rfl, rfl⟩; rw [trim_line])
        | (gi_at_call 13; (with_reducible refine (CallsIn.inRound l (callsIn_wide.2 HLN.out)).mono ?_)
           rintro e w2 ⟨fr', r1, r2, rfl, htb, hgw⟩
           rw [← HGS.out]
           have HTB := Lib.hid htb; have HGW := Lib.hid (grown_trans ((Ext.refl W).drew.grown (some D)) hgw)
           clear htb hgw)
        | (gi_at_call 12; (with_reducible refine (CallsIn.inRound l (callsIn_wide.2 (HWS.out w2 HGW.out))).mono ?_)
           rintro e w3' ⟨rfl, hb3, hbel, hkb⟩
           have HB3 := Lib.hid hb3; have HBEL := Lib.hid hbel; have HKB := Lib.hid hkb
           clear hb3 hbel hkb))
      all_goals gi_wp2
      all_goals exact HI.out.next rfl HTB.out HGW.out (by rw [← HGS.out]; exact HB3.out) HBEL.out HKB.out hwD (by omega) (by omega) (by omega) (by omega) (by omega) (fun a e => by have := hPA a e; omega)
    case done =>
      intro Dd W hDd hI hK
      have hbl := hI.bld
      have hsz' : w5.heap.size ≤ W.heap.size := by have := (Array.getElem?_eq_some_iff.1 hK).1; omega
      have HI := Lib.hid hI
      clear hI h0 hc0 hf0
      dsimp only
      gi_wp2_with fail
      refine ⟨trivial, (callsIn_wide.2 (str_kept (D + 1 + 1) (D + 1 + 1) _ W hbl (by omega))).mono ?_⟩; rintro e W3 ⟨rfl, hbw, hok⟩
      have hK3 : W3.heap[Dd]? = some (.deferred (some [])) := hok Dd _ hK (fun e => by have := Option.some.inj e; omega) (fun c fz e => by cases e)
      have HX3 := Lib.hid (Below.trans HI.out.ext (Below.mono hbw (by omega)))
      clear hbw hok hK
      gi_wp2
      refine ⟨by simp, .inl ⟨_, _, rfl, run_takeDeferred hK3, ?_⟩⟩
      refine ⟨Pr (S (playL q (freshM q.size) (linesFrom [] t))) (I 0), ?_, rfl, HX3.out.trans (belowK_b (w := w) (Nat.le_refl _) W3 Dd _ _ (by omega) hK3 rfl rfl)⟩
      simp [results, Tryz.f4, go_sem]
  · have HSF := Lib.hid hsf
    clear hsf
    gi_wp2_with fail
    refine ⟨trivial, (callsIn_wide.2 (suffix_any t [10] w1 (by omega))).mono ?_⟩; rintro e w' ⟨rfl, rfl⟩; rw [HSF.out]
    gi_wp2_with fail
    refine ⟨trivial, (callsIn_wide.2 (fresh_any A q.size c w1 HS.out)).mono ?_⟩; rintro e w3 ⟨g1, g2, rfl, hg1, hg2, hgn, ho1, ho2, x3⟩
    have STT := Lib.hid (PlayI.start (c := c) (t := t) (X1.out.trans x3) x3 SL.out HS.out ho1 ho2 rfl)
    have HX13 := Lib.hid x3; clear hg1 hg2 hgn ho1 ho2 x3
    gi_wp2_with fail
    refine ⟨trivial, (callsIn_wide.2 (lines_any t _)).mono ?_⟩; rintro e w5 ⟨rfl, h5⟩
    rw [World.size_alloc, World.size_alloc, World.size_alloc]
    obtain ⟨h0, hPA, hc0, hf0, hsz⟩ := STT.out
    simp only [S] at h5
    rw [← h5] at h0 hc0 hf0 hsz
    clear h5 STT
    obtain ⟨D, hD⟩ : ∃ D, D = w3.heap.size := ⟨_, rfl⟩
    rw [← hD] at h0 hPA hc0 hf0 hsz ⊢
    have hwD : w.heap.size ≤ D := by rw [hD]; exact Nat.le_trans X1.out.size HX13.out.size
    clear hD
    gi_wp2
    refine wpIn_rangeFunc_cell (by omega) (gf := 33) (lb := #[.pointer (some ⟨D + 1 + 1 + 1, 0, none⟩)]) rfl (enters_of Tryz.func33 (by kernel_rfl) rfl)
      (encs := fun x : List UInt8 => #[S (x ++ [10])]) (fun _ => rfl) (D + 1 + 1 + 1) (by omega) (S t) hc0 hf0 (fun x => (10 : UInt8) ∉ x ∧ x.length ≤ 4096) (linesFrom [] t)
      (fun l J W hJs hJd hY hc hf hJ => lines_it 8 l (D + 1 + 1 + 1) (by omega) J t h3a HEND.out hJs hJd hY W hc hf hJ)
      (fun pre W => PlayI w D (D + 1) (D + 1 + 1) (D + 1 + 1 + 1) A q.size c q pre W)
      (PlayI.ownFrom rfl (by omega) (by omega) (by omega) (fun a e => by have := hPA a e; omega) (by omega))
      (fun pre W v u hI _ => hI.setS rfl (by omega) (by omega) (by omega) (by omega) (fun a e => by have := hPA a e; omega) v)
      (fun pre W hI => hI.drew rfl (by omega) (by omega) (by omega) (fun a e => by have := hPA a e; omega)) h0 (fun x => { tmps := #[S s, S t, undef, undef, .string ⟨#[]⟩, .int .i64 0, .slice A q.size c, I 0, .pointer (some ⟨D + 1, 0, none⟩), .pointer (some ⟨D + 1 + 1, 0, none⟩), S (x ++ [10]), Pr (.slice A q.size c) (I 0), S s, Pr (.slice A q.size c) (I 0), .slice A q.size c, I 0, I 0, .bool false, undef, S t, .int .i64 t.length, .bool (decide (4096 < (t.length : Int))), .bool (decide (4096 < (t.length : Int))), S t, I (List.count 10 t), .bool (decide (40 < (List.count 10 t : Int))), .bool (decide (4096 < (t.length : Int)) || decide (40 < (List.count 10 t : Int))), S t, .bool true, .bool true, S t, .bool true, .bool false, .bool false, .slice A q.size c, .slice A q.size c, .agg #[Bv true, .slice (some ⟨g1, 0, none⟩) q.size q.size, .slice (some ⟨g2, 0, none⟩) 3 3], .agg #[.slice A q.size c, Bv true, .slice (some ⟨g1, 0, none⟩) q.size q.size, .slice (some ⟨g2, 0, none⟩) 3 3], .pointer (some ⟨D, 0, none⟩), S t, .func (.func 33) #[] #[.pointer (some ⟨D + 1 + 1 + 1, 0, none⟩)], S (x ++ [10]), undef, undef, undef, undef, undef, undef, undef], defers := [] }) ?assign ?body ?done
    case assign =>
      intro l x W K hK
      gi_wp2
      exact hK
    case body =>
      intro l pre x W hI hx hpl
      have HI := Lib.hid hI; have HX := Lib.hid hx
      clear h0 hI hx hc0 hf0 hsz
      obtain ⟨fr, p1, p2, ht⟩ := HI.out.tbl
      have hcv : W.cell? ⟨D + 1, 0, none⟩ = some (.pointer (some ⟨D, 0, none⟩)) := (HI.out.var.cell 0).trans rfl
      have HT := Lib.hid ht
      clear ht
      have f14 : Fence.wide.fn 14 := trivial
      have f13 : Fence.wide.fn 13 := trivial
      have f12 : Fence.wide.fn 12 := trivial
      have hbig : (Lib.byteCells (playL q (freshM q.size) pre)).length + ((stepL q (afterL q (freshM q.size) pre) x).2 ++ [10]).length ≤ 140737488355328 := by
        have h1 := playL_len HOK.out HG.out HS.out pre _ (.start q)
        have h2 := stepL_len HS.out (RestOK.after HOK.out HG.out pre _ (.start q)).wl x
        simp only [Lib.byteCells, List.length_map, List.length_append, List.length_singleton]
        omega
      have hLN := dline_any D A q.size c q (afterL q (freshM q.size) pre) fr p1 p2 x m W.drew (HT.out.ext (Ext.refl W).drew) ((HI.out.ext.drew).keeps _ _ HML.out) HOK.out HG.out HS.out (RestOK.after HOK.out HG.out pre _ (.start q)) HX.out.2
      have hWS : ∀ w2, W.grownBy w2 (some D) → Calls Tryz.prog 12 #[.pointer (some ⟨D + 1 + 1, 0, none⟩), S ((stepL q (afterL q (freshM q.size) pre) x).2 ++ [10])] w2 _ := fun w2 hg2 =>
        wstr_any (D + 1 + 1) (D + 1 + 1) (Lib.byteCells (playL q (freshM q.size) pre)) ((stepL q (afterL q (freshM q.size) pre) x).2 ++ [10]) w2 (IsB.grown HI.out.bld HT.out.box hg2 (by omega)) hbig (by
          have h1 : D + 1 + 1 < W.heap.size := by
            rcases HI.out.bld with hb | hb
            · exact lt_of_cell hb.cell0
            · exact lt_of_cell hb.cell0
          have := hg2.size; omega)
      obtain ⟨g, hgs⟩ : ∃ g, g = (stepL q (afterL q (freshM q.size) pre) x).2 := ⟨_, rfl⟩
      rw [← hgs] at hWS hbig
      have HGS := Lib.hid hgs
      have HLN := Lib.hid hLN; have HWS := Lib.hid hWS
      have hap : (⟨g.toArray⟩ : ByteArray) ++ ⟨#[10]⟩ = ⟨(g ++ [10]).toArray⟩ := str_app g [10]
      have hgl : ¬ (9223372036854775807 < g.length + 1) := by
        have : g.length + 1 ≤ 140737488355328 := by simp only [List.length_append, List.length_singleton] at hbig; omega
        omega
      clear hgs hLN hWS hbig
      dsimp only
      gi_wp2_with fail
      gi_region_with_o (first
        | (gi_at_call 14; (with_reducible refine (CallsIn.inRound l (callsIn_wide.2 (trim_any (x ++ [10]) [10] _ ?hl))).mono ?_)
           case hl => simp; have := HX.out.2; omega
           rintro e w' ⟨rfl, rfl⟩; rw [trim_line])
        | (gi_at_call 13; (with_reducible refine (CallsIn.inRound l (callsIn_wide.2 HLN.out)).mono ?_)
           rintro e w2 ⟨fr', r1, r2, rfl, htb, hgw⟩
           rw [← HGS.out]
           have HTB := Lib.hid htb; have HGW := Lib.hid (grown_trans ((Ext.refl W).drew.grown (some D)) hgw)
           clear htb hgw)
        | (gi_at_call 12; (with_reducible refine (CallsIn.inRound l (callsIn_wide.2 (HWS.out w2 HGW.out))).mono ?_)
           rintro e w3' ⟨rfl, hb3, hbel, hkb⟩
           have HB3 := Lib.hid hb3; have HBEL := Lib.hid hbel; have HKB := Lib.hid hkb
           clear hb3 hbel hkb))
      all_goals gi_wp2
      all_goals exact HI.out.next rfl HTB.out HGW.out (by rw [← HGS.out]; exact HB3.out) HBEL.out HKB.out hwD (by omega) (by omega) (by omega) (by omega) (by omega) (fun a e => by have := hPA a e; omega)
    case done =>
      intro Dd W hDd hI hK
      have hbl := hI.bld
      have hsz' : w5.heap.size ≤ W.heap.size := by have := (Array.getElem?_eq_some_iff.1 hK).1; omega
      have HI := Lib.hid hI
      clear hI h0 hc0 hf0
      dsimp only
      gi_wp2_with fail
      refine ⟨trivial, (callsIn_wide.2 (str_kept (D + 1 + 1) (D + 1 + 1) _ W hbl (by omega))).mono ?_⟩; rintro e W3 ⟨rfl, hbw, hok⟩
      have hK3 : W3.heap[Dd]? = some (.deferred (some [])) := hok Dd _ hK (fun e => by have := Option.some.inj e; omega) (fun c fz e => by cases e)
      have HX3 := Lib.hid (Below.trans HI.out.ext (Below.mono hbw (by omega)))
      clear hbw hok hK
      gi_wp2
      refine ⟨by simp, .inl ⟨_, _, rfl, run_takeDeferred hK3, ?_⟩⟩
      refine ⟨Pr (S (playL q (freshM q.size) (linesFrom [] t))) (I 0), ?_, rfl, HX3.out.trans (belowK_b (w := w) (Nat.le_refl _) W3 Dd _ _ (by omega) hK3 rfl rfl)⟩
      simp [results, Tryz.f4, go_sem]
theorem dplay_any (s t : List UInt8) (m : Int) (w : World) (hm : w.cell? ⟨0, 0, none⟩ = some (.int .i64 m)) (hs : s.length ≤ maxLen) (ht : t.length ≤ maxLen) :
    Calls Tryz.prog 4 #[S s, S t] w fun e w' => e = .returned (Pr (S (playV s t)) (I (playE s t))) ∧ Ext w w' := by
  by_cases hE : playE s t = 0
  · have h := hE
    unfold playE at h
    have h1 : ¬ 4096 < s.length := fun c => by rw [if_pos c] at h; cases h
    rw [if_neg h1] at h
    obtain ⟨q, hq⟩ : ∃ q, progOfText s = some q := by
      cases hp : progOfText s with
      | none => rw [hp] at h; simp at h
      | some q => exact ⟨q, rfl⟩
    rw [if_neg (by rw [hq]; simp)] at h
    have h3 : ¬ (4096 < t.length ∨ 40 < t.count 10) := fun c => by rw [if_pos c] at h; cases h
    rw [if_neg h3] at h
    have h6 : ¬ (t ≠ [] ∧ t.getLast? ≠ some 10) := fun c => by rw [if_pos c] at h; cases h
    have hv : playV s t = playL q (freshM q.size) (linesFrom [] t) := by unfold playV; rw [hq]; simp only []; rw [if_pos hE]
    rw [hv, hE]
    refine callsIn_wide.1 (dplay_in s t q m w hm (by omega) hq (by omega) (by omega) ?_)
    by_cases ht0 : t = []
    · exact .inl ht0
    · exact .inr (Classical.byContradiction fun hc => h6 ⟨ht0, hc⟩)
  · have hv : playV s t = [] := by
      unfold playV
      cases progOfText s with
      | none => rfl
      | some q => simp only []; rw [if_neg hE]
    rw [hv]
    exact dplay_bad s t w hs ht hE
end Go.Proofs.YtgohhcnmkomafaaGreatDoor
/- Words of the reference: inputsFrom, Digits, joined. -/
namespace Go.Proofs.YtgohhcnmkomafaaGreatDoor
set_option linter.unusedVariables false
set_option linter.unusedSimpArgs false
set_option maxRecDepth 100000
open Go.RowKit
attribute [local go_sem] Oper.semAt_some
theorem conv_bytes (b : UInt8) (q : Int) (hq : (b.toNat : Int) = q) (w : World) : (convert 39 9 (.slice (some ⟨w.heap.size, 0, none⟩) 1 1)).run Tryz.prog (w.alloc (.cells #[.int .u8 q] 5)) = .ok (.string ⟨#[b]⟩) (w.alloc (.cells #[.int .u8 q] 5)) := by
  subst hq
  exact run_convert_bytes_back (P := Tryz.prog) _ 39 9 5 ⟨w.heap.size, 0, none⟩ 1 [b] Tryz.underlying39 Tryz.underlying5 Tryz.underlying9 (fun j hj => by
    obtain rfl : j = 0 := by simpa using hj
    rw [show (⟨w.heap.size, 0, none⟩ : Addr).add 0 = ⟨w.heap.size, 0, none⟩ from rfl, World.cell?_alloc_new]; rfl)
theorem digits_small (k : Nat) (hk : k < 10) (w : World) : Calls Tryz.prog 20 #[I k] w fun e w' => e = .returned (S (digD k)) ∧ Ext w w' := by
  have hm : (k : Int) % 10 = k := by omega
  have hw : IntKind.i64.wrap (48 + (k : Int)) = 48 + k := IntWalk.i64_in _ (by omega)
  have hu : IntKind.u8.wrap (48 + (k : Int)) = 48 + k := by unfold IntKind.wrap; simp [IntKind.bits, IntKind.signed]; omega
  have hd : digD k = [UInt8.ofNat (48 + k)] := by unfold digD; rw [if_pos hk]
  obtain ⟨b, hb⟩ : ∃ b, b = UInt8.ofNat (48 + k) := ⟨_, rfl⟩
  have cv := conv_bytes b (48 + k) (by rw [hb]; simp [UInt8.toNat_ofNat']; omega) w
  have hlt : ((k : Int) < 10) := by omega
  rw [hd, ← hb]
  clear hd hb
  go_enter Tryz.func20, Tryz.ntmps20
  go_wp2
  go_ret
  exact ⟨rfl, (Ext.refl _).alloc _⟩
theorem digits_any (k : Nat) (hk : k < 100) (w : World) : Calls Tryz.prog 20 #[I k] w fun e w' => e = .returned (S (digD k)) ∧ Ext w w' := by
  by_cases h : k < 10
  · exact digits_small k h w
  obtain ⟨b, hb⟩ : ∃ b, b = UInt8.ofNat (48 + k % 10) := ⟨_, rfl⟩
  obtain ⟨c, hc⟩ : ∃ c, c = UInt8.ofNat (48 + k / 10) := ⟨_, rfl⟩
  obtain ⟨r, hr, hr2⟩ : ∃ r : Nat, (k : Int) % 10 = r ∧ r = k % 10 := ⟨k % 10, by omega, rfl⟩
  have hr3 : r < 10 := by omega
  have hw : IntKind.i64.wrap (48 + (r : Int)) = 48 + r := IntWalk.i64_in _ (by omega)
  have hu : IntKind.u8.wrap (48 + (r : Int)) = 48 + r := by unfold IntKind.wrap; simp [IntKind.bits, IntKind.signed]; omega
  have cv := conv_bytes b (48 + r) (by rw [hb, hr2]; simp [UInt8.toNat_ofNat']; omega) w
  have hlt : ¬ ((k : Int) < 10) := by omega
  obtain ⟨q, hq, hq2⟩ : ∃ q : Nat, (k : Int).tdiv 10 = q ∧ q = k / 10 := ⟨k / 10, by rw [Int.tdiv_eq_ediv_of_nonneg (by omega)]; omega, rfl⟩
  have hq64 : wrap64 (q : Int) = q := IntWalk.wrap64_in _ (by omega)
  have hd : digD k = [c, b] := by unfold digD; rw [if_neg h, hb, hc]
  have ih := fun W => digits_small q (by omega) W
  have hd1 : digD q = [c] := by unfold digD; rw [if_pos (by omega), hc, hq2]
  rw [hd1] at ih
  have IH := Lib.hid ih
  have hap : (⟨#[c]⟩ : ByteArray) ++ ⟨#[b]⟩ = ⟨#[c, b]⟩ := str_app [c] [b]
  rw [hd]
  clear hd hd1 ih hb hc hr2 hq2
  go_enter Tryz.func20, Tryz.ntmps20
  go_wp2_with fail
  refine (IH.out _).mono ?_; rintro e w1 ⟨rfl, x1⟩
  go_wp2
  go_ret
  exact ⟨rfl, ((Ext.refl _).alloc _).trans x1⟩
/-- What inputs give as text, up to one. -/
def insPart (x j : Nat) : List UInt8 := ((List.range j).map fun i => if x / 2 ^ i % 2 = 1 then [32, UInt8.ofNat (120 + i)] else []).flatten
theorem insPart_all : ∀ x, x < 8 → insPart x 3 = insText x := by decide
theorem insPart_next (x j : Nat) : insPart x (j + 1) = insPart x j ++ (if x / 2 ^ j % 2 = 1 then [32, UInt8.ofNat (120 + j)] else []) := by
  simp [insPart, List.range_succ]
theorem insPart_len (x : Nat) : ∀ j, (insPart x j).length ≤ 2 * j
  | 0 => by simp [insPart]
  | j + 1 => by
    have := insPart_len x j
    rw [insPart_next, List.length_append]
    split <;> simp <;> omega
theorem bits_pow : ∀ x : Nat, x < 8 → ∀ j, j < 3 → (bitsM (x : Int) 3)[j]? = some (((x / 2 ^ j % 2 : Nat) : Int)) := by decide
theorem behind_find (l : List UInt8) (k : Nat) (hk : k < 8) (h : ∀ i, i < k → insText i ≠ l) (he : insText k = l) : behindM l = some k := by
  unfold behindM
  rw [List.find?_range_eq_some]
  exact ⟨by simpa using he, by simpa using hk, fun j hj => by simpa using h j hj⟩
theorem behind_not (l : List UInt8) (h : ∀ i, i < 8 → insText i ≠ l) : behindM l = none := by
  unfold behindM
  rw [List.find?_eq_none]
  intro x hx
  simpa using h x (List.mem_range.1 hx)
def behV (l : List UInt8) : Value := match behindM l with | some x => Pr (I x) (.bool true) | none => Pr (I 0) (.bool false)
set_option maxHeartbeats 4000000 in
theorem inputsFrom_any (l : List UInt8) (w : World) : Calls Tryz.prog 19 #[S l] w fun e w' => e = .returned (behV l) ∧ Ext w w' := by
  go_enter Tryz.func19, Tryz.ntmps19
  go_wp2
  go_loopw [5] (fun x wr => ∃ k : Nat, k ≤ 8 ∧ x = .int .i64 k ∧ Ext w wr ∧ ∀ i, i < k → insText i ≠ l) (fun x _ => 8 - (intOf x).toNat)
  case atStart => exact ⟨0, by omega, rfl, Ext.refl _, fun i hi => by omega⟩
  case round =>
    obtain ⟨k, hk, rfl, hext, hno⟩ := hrel
    have HNO := Lib.hid hno; have HX := Lib.hid hext
    clear hno hext
    go_wp2_with fail
    refine (power_any wr 3 (by omega)).mono ?_; rintro e w' ⟨rfl, rfl⟩
    by_cases hlt : k < 8
    · have hki : ((k : Int) < 8) := by omega
      go_wp2_with fail
      go_loopw [6, 7] (fun s j wi => ∃ m : Nat, m ≤ 3 ∧ j = .int .i64 m ∧ s = S (insPart k m) ∧ Ext w wi) (fun _ j _ => 3 - (intOf j).toNat)
      case atStart => exact ⟨0, by omega, rfl, rfl, HX.out⟩
      case round =>
        obtain ⟨m, hm, rfl, rfl, hxi⟩ := hrel
        have HXI := Lib.hid hxi
        clear hxi
        by_cases hm3 : m < 3
        · go_wp2_with fail
          refine (rbits_any k 3 wr (by omega) (by omega) (by omega)).mono ?_; rintro e w1 ⟨v, rfl, hown, hx1⟩
          obtain ⟨A, c, rfl, -, -, hs⟩ := own_sl hown
          obtain ⟨b, off, rfl, hc⟩ := hs.2 m (I ((k / 2 ^ m % 2 : Nat) : Int)) (by rw [List.getElem?_map, bits_pow k hlt m hm3]; rfl)
          have hn := insPart_next k m
          have hlen := insPart_len k m
          have HN := Lib.hid hn; have HX1 := Lib.hid hx1
          clear hn hx1 hown hs
          generalize k / 2 ^ m % 2 = bb at *
          by_cases hb : bb = 1
          · subst hb
            obtain ⟨p, hp⟩ : ∃ p, p = insPart k m := ⟨_, rfl⟩
            obtain ⟨c, hc120⟩ : ∃ c, c = UInt8.ofNat (120 + m) := ⟨_, rfl⟩
            have hl120 : letter 120 m = c := by rw [hc120]; simp [letter]
            have sg := fun W => rsign_any 120 m (.inr rfl) (by omega) W
            rw [hl120] at sg
            have SG := Lib.hid sg; have HP := Lib.hid hp; have HCC := Lib.hid hc120
            have ha1 : (⟨p.toArray⟩ : ByteArray) ++ ⟨#[32]⟩ = ⟨(p ++ [32]).toArray⟩ := str_app p [32]
            have ha2 : (⟨(p ++ [32]).toArray⟩ : ByteArray) ++ ⟨#[c]⟩ = ⟨(p ++ [32] ++ [c]).toArray⟩ := str_app (p ++ [32]) [c]
            have hl1 : ¬ (9223372036854775807 < p.length + 1) := by rw [hp]; omega
            have hl2 : ¬ (9223372036854775807 < p.length + 1 + 1) := by rw [hp]; omega
            rw [← hp]
            clear sg hp hc120 hl120 hlen
            go_wp2_with fail
            refine (SG.out _).mono ?_; rintro e w2 ⟨rfl, x2⟩
            have HX2 := Lib.hid ((HXI.out.trans HX1.out).trans x2)
            clear x2
            go_wp2
            go_roundw
            case rel => exact ⟨m + 1, by omega, by go_num, by rw [HN.out, ← HP.out, ← HCC.out, if_pos trivial], HX2.out⟩
            case measure => simp [intOf]; omega
          · have hbi : ((bb : Int) == 1) = false := by simpa using (by omega : ¬ (bb : Int) = 1)
            go_wp2
            go_roundw
            case rel => exact ⟨m + 1, by omega, by go_num, by rw [HN.out, if_neg hb, List.append_nil], HXI.out.trans HX1.out⟩
            case measure => simp [intOf]; omega
        · obtain rfl : m = 3 := by omega
          rw [insPart_all k hlt]
          by_cases he : insText k = l
          · have hb := behind_find l k hlt HNO.out he
            have HB : Hid (behV l = Pr (I k) (.bool true)) := by unfold behV; rw [hb]; exact Lib.hid rfl
            subst he
            clear hb
            go_wp2
            go_ret2
            exact ⟨by rw [HB.out]; rfl, HXI.out⟩
          · have hbe : (insText k == l) = false := beq_eq_false_iff_ne.2 he
            go_wp2
            go_roundw
            case rel => exact ⟨k + 1, by omega, by go_num, HXI.out, fun i hi => by
              rcases Nat.lt_succ_iff_lt_or_eq.1 hi with h | h
              · exact HNO.out i h
              · rw [h]; exact he⟩
            case measure => simp [intOf]; omega
    · obtain rfl : k = 8 := by omega
      have hb := behind_not l HNO.out
      have HB : Hid (behV l = Pr (I 0) (.bool false)) := by unfold behV; rw [hb]; exact Lib.hid rfl
      clear hb
      go_wp2
      go_ret2
      exact ⟨by rw [HB.out]; rfl, HX.out⟩
theorem listedT_snoc (l : List (List UInt8)) (x : List UInt8) (h : l ≠ []) : [32].intercalate (l ++ [x]) = [32].intercalate l ++ 32 :: x := by
  induction l with
  | nil => exact absurd rfl h
  | cons a l ih =>
    cases l with
    | nil => simp [List.intercalate]
    | cons b l => rw [List.cons_append, intercalate_cons 32 a (by simp), intercalate_cons 32 a (by simp), ih (by simp)]; simp
set_option maxHeartbeats 4000000 in
theorem joined_any (A : Option Addr) (n c : Nat) (ws : List (List UInt8)) (w : World) (h : Sl w A n (ws.map S)) (hn : n ≤ 20) (hb : ∀ x ∈ ws, x.length ≤ 4) :
    Calls Tryz.prog 21 #[.slice A n c] w fun e w' => e = .returned (S (listedT ws)) ∧ w = w' := by
  have hl : ws.length = n := by have := h.1; simpa using this
  by_cases h0 : n = 0
  · subst h0
    obtain rfl : ws = [] := List.eq_nil_of_length_eq_zero hl
    go_enter Tryz.func21, Tryz.ntmps21
    go_wp2
    go_ret
    exact ⟨rfl, rfl⟩
  · have hz : ((n : Int) == 0) = false := by simpa using (by omega : ¬ (n : Int) = 0)
    have hn0 : 0 < n := by omega
    obtain ⟨b, off, y, rfl, hc0, hy0⟩ := h.at_ (k := 0) hn0
    have H := Lib.hid h; have HB := Lib.hid hb; have HL := Lib.hid hl; have HY0 := Lib.hid hy0
    clear h hb hl hy0
    simp only [Nat.add_zero] at hc0
    go_enter Tryz.func21, Tryz.ntmps21
    go_wp2
    go_loopw [3, 4] (fun s i wr => ∃ k : Nat, 1 ≤ k ∧ k ≤ n ∧ i = .int .i64 k ∧ wr = w ∧ s = S ([32].intercalate (ws.take k))) (fun _ i _ => n - (intOf i).toNat)
    case atStart => exact ⟨1, by omega, by omega, rfl, rfl, by
      obtain ⟨hlt, he⟩ := List.getElem?_eq_some_iff.1 HY0.out
      cases ws with
      | nil => simp at hlt
      | cons a l => simp at he; subst he; simp [List.intercalate]⟩
    case round =>
      obtain ⟨k, hk1, hk, rfl, rfl, rfl⟩ := hrel
      by_cases hlt : k < n
      · obtain ⟨b', off', z, e, hc, hz'⟩ := H.out.at_ hlt
        injection e with e; injection e with e1 e2; subst e1; subst e2
        have hs := listedT_snoc (ws.take k) z (fun e => by have := congrArg List.length e; rw [List.length_take, HL.out] at this; simp at this; omega)
        have ht : ws.take (k + 1) = ws.take k ++ [z] := by
          obtain ⟨hlt', he⟩ := List.getElem?_eq_some_iff.1 hz'
          rw [List.take_succ_eq_append_getElem hlt', he]
        have hlen : ([32].intercalate (ws.take k)).length ≤ n * 5 := by
          have h1 := intercalate_le 32 4 (ws.take k) (fun x hx => HB.out x (List.mem_of_mem_take hx))
          rw [List.length_take, HL.out] at h1
          have : min k n * (4 + 1) ≤ n * 5 := Nat.mul_le_mul (Nat.min_le_right _ _) (by omega)
          omega
        have hzl := HB.out z (List.mem_of_getElem? hz')
        rw [← ht] at hs
        have HS := Lib.hid hs
        obtain ⟨p, hp⟩ : ∃ p, p = [32].intercalate (ws.take k) := ⟨_, rfl⟩
        have HP := Lib.hid hp
        have ha1 : (⟨p.toArray⟩ : ByteArray) ++ ⟨#[32]⟩ = ⟨(p ++ [32]).toArray⟩ := str_app p [32]
        have ha2 : (⟨(p ++ [32]).toArray⟩ : ByteArray) ++ ⟨z.toArray⟩ = ⟨(p ++ [32] ++ z).toArray⟩ := str_app (p ++ [32]) z
        have hl1 : ¬ (9223372036854775807 < p.length + 1) := by rw [hp]; omega
        have hl2 : ¬ (9223372036854775807 < p.length + 1 + z.length) := by rw [hp]; omega
        rw [← hp]
        clear hs hp ht hlen hzl
        go_wp2
        go_roundw
        case rel => exact ⟨k + 1, by omega, by omega, by go_num, by (first | trivial | rfl), by rw [HS.out, ← HP.out]⟩
        case measure => simp [intOf]; omega
      · obtain rfl : k = n := by omega
        have hlt' : listedT ws = [32].intercalate (ws.take k) := by
          unfold listedT
          rw [if_neg (fun e => by have := HL.out; rw [e] at this; simp at this; omega), List.take_of_length_le (by have := HL.out; omega)]
        rw [← hlt']
        clear hlt'
        go_wp2
        go_ret
        exact ⟨rfl, rfl⟩
end Go.Proofs.YtgohhcnmkomafaaGreatDoor
/- A region that draws its order, by one fact for each operation: whatever order is drawn, each operation's slot holds what its fact says. -/
namespace Go.Proofs.YtgohhcnmkomafaaGreatDoor
set_option linter.unusedVariables false
set_option linter.unusedSimpArgs false
open Go.RowKit
theorem wpOp_step' {P : Program} {ops : Array Oper} {Q : Exit → Act → World → Prop} {i : Nat} {o : Oper} {K : Act → World → Prop} {a : Act} {w : World} (ho : ops[i]? = some o) (h1 : Region.wanted o (yielded ops a.tmps) = true) (h2 : Oper.wp P o a w K Q) : wpOp P ops Q i K a w := by
  unfold wpOp
  rw [ho]
  show if Region.wanted o (yielded ops a.tmps) = true then _ else _
  rw [if_pos h1]; exact .inl h2
/-- What is known in the midst of such a region: nothing old has changed, and each operation that has come up has left what its fact says. -/
structure Flow (W0 : World) (a0 : Act) (ops : Array Oper) (F : Nat → Value → World → Prop) (listed : Array Bool) (a : Act) (w : World) : Prop where
  ext : Ext W0 w
  size : a.tmps.size = a0.tmps.size
  defers : a.defers = a0.defers
  base : ∀ s : Nat, (∀ (j : Nat) (o : Oper), ops[j]? = some o → o.dst ≠ some s) → a.tmps[s]? = a0.tmps[s]?
  slot : ∀ (j : Nat) (o : Oper) (d : Nat), listed.getD j false = true → ops[j]? = some o → o.dst = some d → ∃ v, a.tmps[d]? = some v ∧ F j v w
def flowOK (ops : Array Oper) (n : Nat) : Bool :=
  (List.range ops.size).all fun j => match ops[j]? with
    | none => true
    | some o => (match o.dst with
      | some d => decide (d < n) && (List.range j).all (fun i => match ops[i]? with | some o' => !(o'.dst == some d) | none => true)
      | none => false) && o.after.toList.all (fun e => !(Region.binds .any e) || decide (e.on < j))
theorem flow_dst {ops : Array Oper} {n : Nat} (h : flowOK ops n = true) {j : Nat} {o : Oper} (hj : ops[j]? = some o) : ∃ d, o.dst = some d ∧ d < n ∧ (∀ i o', i < j → ops[i]? = some o' → o'.dst ≠ some d) ∧ ∀ e ∈ o.after.toList, Region.binds .any e = true → e.on < j := by
  unfold flowOK at h
  have hlt : j < ops.size := (Array.getElem?_eq_some_iff.1 hj).1
  have h1 := List.all_eq_true.1 h j (List.mem_range.2 hlt)
  rw [hj] at h1
  simp only [Bool.and_eq_true] at h1
  obtain ⟨h1, h2⟩ := h1
  cases hd : o.dst with
  | none => rw [hd] at h1; cases h1
  | some d =>
    rw [hd] at h1
    simp only [Bool.and_eq_true, decide_eq_true_eq] at h1
    refine ⟨d, rfl, h1.1, fun i o' hi ho' => ?_, fun e he hb => by have := List.all_eq_true.1 h2 e he; rw [hb] at this; simpa using this⟩
    have h3 := List.all_eq_true.1 h1.2 i (List.mem_range.2 hi)
    rw [ho'] at h3
    simpa using h3
theorem flow_apart {ops : Array Oper} {n : Nat} (h : flowOK ops n = true) {j i : Nat} {o o' : Oper} {d : Nat} (hj : ops[j]? = some o) (hi : ops[i]? = some o') (hd : o.dst = some d) (hd' : o'.dst = some d) : j = i := by
  rcases Nat.lt_trichotomy j i with q | q | q
  · obtain ⟨d2, e, _, h3, _⟩ := flow_dst h hi
    rw [hd'] at e; injection e with e; subst e
    exact absurd hd (h3 j o q hj)
  · exact q
  · obtain ⟨d2, e, _, h3, _⟩ := flow_dst h hj
    rw [hd] at e; injection e with e; subst e
    exact absurd hd' (h3 i o' q hi)
theorem Flow.put {W0 : World} {a0 : Act} {ops : Array Oper} {F : Nat → Value → World → Prop} {listed : Array Bool} {a : Act} {w w' : World} (hok : flowOK ops a0.tmps.size = true) (mono : ∀ j v w w', F j v w → Ext w w' → F j v w')
    (h : Flow W0 a0 ops F listed a w) (hs : listed.size = ops.size) {j : Nat} {o : Oper} (hj : ops[j]? = some o) {v : Value} (hv : F j v w') (hx : Ext w w') : Flow W0 a0 ops F (listed.setIfInBounds j true) (a.put o.dst v) w' := by
  obtain ⟨d, hd, hdn, -, -⟩ := flow_dst hok hj
  rw [hd]
  refine ⟨h.ext.trans hx, by simpa [Act.put] using h.size, h.defers, fun s hsn => ?_, fun i o' d' hl hi hd' => ?_⟩
  · show (a.tmps.setIfInBounds d v)[s]? = _
    rw [Array.getElem?_setIfInBounds_ne (fun e => hsn j o hj (by rw [hd, e]))]
    exact h.base s hsn
  · show ∃ v', (a.tmps.setIfInBounds d v)[d']? = some v' ∧ _
    by_cases e : j = i
    · subst e
      rw [hj] at hi; injection hi with hi; subst hi
      rw [hd] at hd'; injection hd' with hd'; subst hd'
      refine ⟨v, ?_, hv⟩
      rw [Array.getElem?_setIfInBounds_self_of_lt (by rw [h.size]; exact hdn)]
    · have hne : d ≠ d' := fun q => e (flow_apart hok hj hi hd (by rw [hd', q]))
      have hl' : listed.getD i false = true := by
        rw [Array.getD_eq_getD_getElem?, Array.getElem?_setIfInBounds_ne e] at hl
        rw [Array.getD_eq_getD_getElem?]; exact hl
      obtain ⟨v', h1, h2⟩ := h.slot i o' d' hl' hi hd'
      exact ⟨v', by rw [Array.getElem?_setIfInBounds_ne hne]; exact h1, mono _ _ _ _ h2 hx⟩
theorem ready_of {md : Region.Mode} {ops : Array Oper} {listed : Array Bool} {i : Nat} (h : i ∈ Region.ready md ops listed) : ∃ o, ops[i]? = some o ∧ ∀ e ∈ o.after.toList, Region.binds md e = true → listed.getD e.on false = true := by
  unfold Region.ready at h
  obtain ⟨h1, h2⟩ := List.mem_filter.1 h
  simp only [Bool.and_eq_true] at h2
  obtain ⟨-, h3⟩ := h2
  cases ho : ops[i]? with
  | none => rw [ho] at h3; cases h3
  | some o =>
    rw [ho] at h3
    simp only [Option.map_some, Option.getD_some] at h3
    refine ⟨o, rfl, fun e he hb => ?_⟩
    have := Array.all_eq_true'.1 h3 e (by simpa using he)
    simpa [hb] using this
/-! ## The rule with the operations in a list, each with its own fact -/
inductive AllFrom (E : Nat → Oper → Prop) : Nat → List Oper → Prop
  | nil {k : Nat} : AllFrom E k []
  | cons {k : Nat} {o : Oper} {l : List Oper} : E k o → AllFrom E (k + 1) l → AllFrom E k (o :: l)
theorem AllFrom.at_ {E : Nat → Oper → Prop} {k : Nat} {l : List Oper} (h : AllFrom E k l) : ∀ (j : Nat) (o : Oper), l[j]? = some o → E (k + j) o := by
  induction h with
  | nil => intro j o h; simp at h
  | cons h0 _ ih =>
    intro j o h
    cases j with
    | zero => simp at h; subst h; exact h0
    | succ j => have := ih j o (by simpa using h); rwa [show ∀ k : Nat, k + 1 + j = k + (j + 1) from fun k => by omega] at this
def nth {α : Type} : List α → Nat → α → α
  | [], _, d => d
  | x :: _, 0, _ => x
  | _ :: l, n + 1, d => nth l n d
abbrev Fact := Value → World → Prop
/-- The facts of the operations, in their order. -/
def facts (Fs : List Fact) (j : Nat) (v : Value) (w : World) : Prop := nth Fs j (fun _ _ => True) v w
def factsMono : List Fact → Prop
  | [] => True
  | f :: l => (∀ v w w', f v w → Ext w w' → f v w') ∧ factsMono l
theorem facts_mono : ∀ {Fs : List Fact}, factsMono Fs → ∀ j v w w', facts Fs j v w → Ext w w' → facts Fs j v w'
  | [], _, j, v, w, w', _, _ => by unfold facts nth; trivial
  | f :: l, h, 0, v, w, w', hv, hx => h.1 v w w' hv hx
  | f :: l, h, j + 1, v, w, w', hv, hx => facts_mono (Fs := l) h.2 j v w w' hv hx
abbrev isV (V : Value) : Fact := fun v _ => v = V
theorem isV_mono {V : Value} : ∀ (v : Value) (w w' : World), isV V v w → Ext w w' → isV V v w' := fun _ _ _ h _ => h
def dstIs (ops : Array Oper) (i d : Nat) : Bool := match ops[i]? with | some o => o.dst == some d | none => false
theorem dstIs_spec {ops : Array Oper} {i d : Nat} (h : dstIs ops i d = true) : ∃ o, ops[i]? = some o ∧ o.dst = some d := by
  unfold dstIs at h
  cases ho : ops[i]? with
  | none => rw [ho] at h; cases h
  | some o => rw [ho] at h; exact ⟨o, rfl, by simpa using h⟩
def freeSlot (ops : Array Oper) (s : Nat) : Bool := ops.all fun o => !(o.dst == some s)
theorem freeSlot_spec {ops : Array Oper} {s : Nat} (h : freeSlot ops s = true) : ∀ (j : Nat) (o : Oper), ops[j]? = some o → o.dst ≠ some s := fun j o ho => by
  have := (Array.all_eq_true_iff_forall_mem.1 h) o (Array.mem_of_getElem? ho)
  simpa using this
def waitsFor (o : Oper) (i : Nat) : Bool := o.after.any fun e => e.on == i && Region.binds .any e
theorem waitsFor_spec {o : Oper} {i : Nat} {listed : Array Bool} (h : waitsFor o i = true) (hd : ∀ e ∈ o.after.toList, Region.binds .any e = true → listed.getD e.on false = true) : listed.getD i false = true := by
  obtain ⟨e, he, h2⟩ := Array.any_eq_true'.1 h
  simp only [Bool.and_eq_true, beq_iff_eq] at h2
  rw [← h2.1]; exact hd e (by simpa using he) h2.2
theorem wanted_yes {ops : Array Oper} {o : Oper} {tmps : Array Value} (g : Nat) (b : Bool) (d : Nat) (hg : o.guard = some (g, b)) (hd : dstIs ops g d = true) (hs : tmps[d]? = some (.bool b)) : Region.wanted o (yielded ops tmps) = true := by
  obtain ⟨og, h1, h2⟩ := dstIs_spec hd
  unfold Region.wanted yielded
  rw [hg]; simp [h1, h2, hs]
theorem wanted_no {ops : Array Oper} {o : Oper} {tmps : Array Value} (g : Nat) (b : Bool) (d : Nat) (hg : o.guard = some (g, b)) (hd : dstIs ops g d = true) (hs : tmps[d]? = some (.bool (!b))) : Region.wanted o (yielded ops tmps) = false := by
  obtain ⟨og, h1, h2⟩ := dstIs_spec hd
  unfold Region.wanted yielded
  rw [hg]; cases b <;> simp [h1, h2, hs]
theorem wanted_free {ops : Array Oper} {o : Oper} {tmps : Array Value} (hg : o.guard = none) : Region.wanted o (yielded ops tmps) = true := by
  unfold Region.wanted; rw [hg]
theorem wpOp_skip' {P : Program} {ops : Array Oper} {Q : Exit → Act → World → Prop} {i : Nat} {o : Oper} {K : Act → World → Prop} {a : Act} {w : World} (ho : ops[i]? = some o) (h1 : Region.wanted o (yielded ops a.tmps) = false) (h2 : K (a.put o.dst undef) w) : wpOp P ops Q i K a w := by
  unfold wpOp
  rw [ho]
  show if Region.wanted o (yielded ops a.tmps) = true then _ else _
  rw [if_neg (by rw [h1]; decide)]; exact h2
/-! ## The same for the first m operations of a region; the state behind them is written out -/
def putAll : Act → List Oper → List Value → Act
  | a, o :: os, v :: vs => putAll (a.put o.dst v) os vs
  | a, _, _ => a
theorem Act.put_size (a : Act) (d : Option Tmp) (v : Value) : (a.put d v).tmps.size = a.tmps.size := by cases d <;> simp [Act.put]
theorem Act.put_defers' (a : Act) (d : Option Tmp) (v : Value) : (a.put d v).defers = a.defers := by cases d <;> rfl
theorem eq_putAll {a : Act} : ∀ {os : List Oper} {vs : List Value} {a0 : Act}, vs.length = os.length → a.tmps.size = a0.tmps.size → a.defers = a0.defers →
    (∀ s : Nat, (∀ o ∈ os, o.dst ≠ some s) → a.tmps[s]? = a0.tmps[s]?) → (∀ (j : Nat) (o : Oper) (d : Nat), os[j]? = some o → o.dst = some d → d < a0.tmps.size ∧ ∃ v, vs[j]? = some v ∧ a.tmps[d]? = some v) → a = putAll a0 os vs
  | [], [], a0, _, _, hd, hb, _ => by
    obtain ⟨t, d⟩ := a
    obtain ⟨t0, d0⟩ := a0
    simp only [putAll]
    have h1 : t = t0 := Array.ext_getElem? fun s => hb s (fun o h => by cases h)
    have h2 : d = d0 := hd
    rw [h1, h2]
  | o :: os, v :: vs, a0, hl, hsz, hd, hb, hs => by
    simp only [putAll]
    refine eq_putAll (by simpa using hl) (by rw [Act.put_size]; exact hsz) (by rw [Act.put_defers']; exact hd) (fun s h => ?_) (fun j o' d' hj hd' => ?_)
    · cases ho : o.dst with
      | none => exact hb s (fun o' h' => by
          rcases List.mem_cons.1 h' with rfl | h'
          · rw [ho]; simp
          · exact h o' h')
      | some d =>
        obtain ⟨h1, v', h2, h3⟩ := hs 0 o d (by simp) ho
        simp only [List.getElem?_cons_zero, Option.some.injEq] at h2
        subst h2
        by_cases e : d = s
        · subst e
          rw [h3]; simp [Act.put, Array.getElem?_setIfInBounds_self_of_lt h1]
        · rw [hb s (fun o' h' => by
            rcases List.mem_cons.1 h' with rfl | h'
            · rw [ho]; simpa using e
            · exact h o' h')]
          simp [Act.put, Array.getElem?_setIfInBounds_ne e]
    · obtain ⟨h1, v', h2, h3⟩ := hs (j + 1) o' d' (by simpa using hj) hd'
      exact ⟨by rw [Act.put_size]; exact h1, v', by simpa using h2, h3⟩
def ForFacts : List Fact → World → (List Value → Prop) → Prop
  | [], _, K => K []
  | f :: l, w, K => ∀ v, f v w → ForFacts l w (fun vs => K (v :: vs))
theorem forFacts_get {a : Act} {w : World} : ∀ {os : List Oper} {Fs : List Fact} {K : List Value → Prop}, Fs.length = os.length → ForFacts Fs w K →
    (∀ (j : Nat) (o : Oper), os[j]? = some o → ∃ d v, o.dst = some d ∧ a.tmps[d]? = some v ∧ facts Fs j v w) →
    ∃ vs : List Value, vs.length = os.length ∧ K vs ∧ ∀ (j : Nat) (o : Oper) (d : Nat), os[j]? = some o → o.dst = some d → ∃ v, vs[j]? = some v ∧ a.tmps[d]? = some v
  | [], [], K, _, hK, _ => ⟨[], rfl, hK, fun j o d h => by simp at h⟩
  | o :: os, f :: Fs, K, hl, hK, h => by
    obtain ⟨d, v, h1, h2, h3⟩ := h 0 o (by simp)
    obtain ⟨vs, g1, g2, g3⟩ := forFacts_get (by simpa using hl) (hK v h3) (fun j o' hj => h (j + 1) o' (by simpa using hj))
    refine ⟨v :: vs, by simpa using g1, g2, fun j o' d' hj hd => ?_⟩
    cases j with
    | zero =>
      simp only [List.getElem?_cons_zero, Option.some.injEq] at hj; subst hj
      rw [h1] at hd; injection hd with hd; subst hd
      exact ⟨v, by simp, h2⟩
    | succ j => simpa using g3 j o' d' (by simpa using hj) hd
/-- One operation of the front. -/
def StepOK3 (P : Program) (ops : Array Oper) (m : Nat) (Q : Exit → Act → World → Prop) (W0 : World) (a0 : Act) (F : Nat → Value → World → Prop) (j : Nat) (o : Oper) : Prop :=
  ∀ (a : Act) (w : World), Ext W0 w →
    (∀ i d, waitsFor o i = true → dstIs ops i d = true → ∃ v, a.tmps[d]? = some v ∧ F i v w) →
    (∀ s, freeSlot (ops.toList.take m).toArray s = true → a.tmps[s]? = a0.tmps[s]?) →
    (Region.wanted o (yielded ops a.tmps) = true ∧ ∀ K : Act → World → Prop, (∀ v w', F j v w' → Ext w w' → K (a.put o.dst v) w') → Oper.wp P o a w K Q) ∨ (Region.wanted o (yielded ops a.tmps) = false ∧ F j undef w)
/-- Each operation behind the first m waits for all of them. -/
def sufOK (ops : Array Oper) (m : Nat) : Bool := (List.range ops.size).all fun i => decide (i < m) || match ops[i]? with | some o => (List.range m).all (waitsFor o) | none => true
def preL (m n : Nat) : Array Bool := (List.replicate m true ++ List.replicate n false).toArray
theorem listed_pre {listed : Array Bool} {m n : Nat} (hs : listed.size = m + n) (h1 : ∀ j : Nat, j < m → listed.getD j false = true) (h2 : ∀ j : Nat, m ≤ j → listed.getD j false = false) : listed = preL m n := by
  refine Array.ext_getElem? fun j => ?_
  have e0 : (preL m n)[j]? = (List.replicate m true ++ List.replicate n false)[j]? := List.getElem?_toArray
  rw [e0, List.getElem?_append, List.length_replicate, List.getElem?_replicate, List.getElem?_replicate]
  by_cases hj : j < m
  · have := h1 j hj
    rw [if_pos hj, if_pos hj]
    have hlt : j < listed.size := by omega
    simp only [Array.getD, hlt, dif_pos] at this
    rw [Array.getElem?_eq_getElem hlt]; exact congrArg some this
  · rw [if_neg hj]
    by_cases hlt : j < listed.size
    · have := h2 j (by omega)
      simp only [Array.getD, hlt, dif_pos] at this
      rw [Array.getElem?_eq_getElem hlt, if_pos (by omega)]; exact congrArg some this
    · rw [Array.getElem?_eq_none (by omega), if_neg (by omega)]
theorem count_true_pre {listed : Array Bool} {m n : Nat} (hs : listed.size = m + n) (hc : listed.toList.count false ≤ n) (h2 : ∀ j : Nat, m ≤ j → listed.getD j false = false) : ∀ j : Nat, j < m → listed.getD j false = true := by
  intro j hj
  have hlt : j < listed.size := by omega
  have hl : listed.toList.length = m + n := by simpa using hs
  have e : listed.toList = listed.toList.take m ++ listed.toList.drop m := (List.take_append_drop m _).symm
  have hd : (listed.toList.drop m).count false = n := by
    have : ∀ x ∈ listed.toList.drop m, x = false := by
      intro x hx
      obtain ⟨k, hk, rfl⟩ := List.mem_iff_getElem.1 hx
      rw [List.getElem_drop]
      have hk' : m + k < listed.size := by simp only [List.length_drop, Array.length_toList] at hk; omega
      have := h2 (m + k) (by omega)
      simpa [Array.getD, hk'] using this
    rw [List.count_eq_length.2 (fun x hx => (this x hx).symm)]; simp; omega
  rw [e, List.count_append, hd] at hc
  have h0 : (listed.toList.take m).count false = 0 := by omega
  have hn := List.count_eq_zero.1 h0
  have hx : listed[j] = true := by
    cases hh : listed[j] with
    | true => rfl
    | false => exact absurd (List.mem_iff_getElem.2 ⟨j, by simp; omega, by rw [List.getElem_take]; simpa using hh⟩) hn
  simp [Array.getD, hlt, hx]
theorem wpAny_inv_pre {P : Program} {ops : Array Oper} {Q : Exit → Act → World → Prop} {m n : Nat} (hsz : ops.size = m + n) (hsuf : sufOK ops m = true) (I : Array Bool → Act → World → Prop)
    (step : ∀ listed a w i, listed.size = ops.size → I listed a w → i < m → i ∈ Region.ready .any ops listed → wpOp P ops Q i (I (listed.setIfInBounds i true)) a w)
    (ready : ∀ listed a w, listed.size = ops.size → I listed a w → Region.ready .any ops listed = [] → ∀ j : Nat, j < m → listed.getD j false = true)
    (rest : ∀ a w, I (preL m n) a w → wpAny P .any ops Q n (preL m n) a w) :
    ∀ (k : Nat) (listed : Array Bool) (a : Act) (w : World), listed.size = ops.size → listed.toList.count false = n + k → (∀ j : Nat, m ≤ j → listed.getD j false = false) → I listed a w → wpAny P .any ops Q (n + k) listed a w
  | 0, listed, a, w, hs, hc, h2, hI => by
    have := listed_pre (m := m) (n := n) (by omega) (count_true_pre (m := m) (n := n) (by omega) (by omega) h2) h2
    subst this
    exact rest a w hI
  | k + 1, listed, a, w, hs, hc, h2, hI => by
    have hnot : ¬ ∀ j : Nat, j < m → listed.getD j false = true := by
      intro h
      have e := listed_pre (m := m) (n := n) (by omega) h h2
      rw [e] at hc
      simp [preL, List.count_append, List.count_replicate] at hc
    show wpAny P .any ops Q ((n + k) + 1) listed a w
    refine ⟨fun hr => absurd (ready listed a w hs hI hr) hnot, fun i hi => ?_⟩
    have hi2 := hi
    have him : i < m := by
      rcases Nat.lt_or_ge i m with q | q
      · exact q
      · exfalso; apply hnot
        obtain ⟨o, ho, hdep⟩ := ready_of hi
        have h3 := List.all_eq_true.1 hsuf i (List.mem_range.2 (Array.getElem?_eq_some_iff.1 ho).1)
        rw [ho] at h3
        simp only [Bool.or_eq_true, decide_eq_true_eq] at h3
        rcases h3 with h3 | h3
        · omega
        · intro j hj
          exact waitsFor_spec (List.all_eq_true.1 h3 j (List.mem_range.2 hj)) hdep
    refine wpOp_mono (fun a' w' h => wpAny_inv_pre hsz hsuf I step ready rest k _ a' w' (by simpa using hs) ?_ ?_ h) (step listed a w i hs hI him hi)
    · have hm : i < ops.size ∧ listed.getD i true = false := by
        unfold Region.ready at hi2
        obtain ⟨g1, g2⟩ := List.mem_filter.1 hi2
        refine ⟨List.mem_range.1 g1, ?_⟩
        simp only [Bool.and_eq_true, Bool.not_eq_true'] at g2
        exact g2.1
      obtain ⟨g1, g2⟩ := hm
      have hlt : i < listed.size := by omega
      have hx : listed.toList[i]'(by simpa using hlt) = false := by simpa [Array.getD, hlt] using g2
      have := List.count_set (a := true) (b := false) (l := listed.toList) (i := i) (by simpa using hlt)
      simp only [Array.toList_setIfInBounds]
      have hpos : 0 < listed.toList.count false := List.count_pos_iff.2 (by rw [← hx]; exact List.getElem_mem _)
      rw [this, hx]
      have e1 : (if (false == false) = true then 1 else 0) = 1 := rfl
      have e2 : (if (true == false) = true then 1 else 0) = 0 := rfl
      rw [e1, e2]; omega
    · intro j hj
      rw [getD_set_ne false (by omega)]; exact h2 j hj
/-- THE RULE. The first m operations in whatever order, each by its own fact; then the rest, from a state that is written out. -/
theorem wp_flow3 {P : Program} {l : List Oper} {Q : Exit → Act → World → Prop} {id : Nat} {a0 : Act} {W0 : World} (m n : Nat) (Fs : List Fact) (hm : P.follows .mixedOrders = true) (hln : l.length = m + n) (hfl : Fs.length = m)
    (hok : flowOK (l.take m).toArray a0.tmps.size = true) (hsuf : sufOK l.toArray m = true)
    (mono : factsMono Fs) (each : AllFrom (StepOK3 P l.toArray m Q W0 a0 (facts Fs)) 0 (l.take m))
    (rest : ∀ w, Ext W0 w → ForFacts Fs w (fun vs => wpAny P .any l.toArray Q n (preL m n) (putAll a0 (l.take m) vs) w)) : (Code.region id l.toArray true).wp P Q a0 W0 := by
  have hsz : l.toArray.size = m + n := by simpa using hln
  have hlt : (l.take m).length = m := by simp; omega
  have hpo : ∀ i o, i < m → l.toArray[i]? = some o → (l.take m).toArray[i]? = some o := fun i o hi ho => by
    rw [List.getElem?_toArray, List.getElem?_take_of_lt hi]; simpa using ho
  have hdep : ∀ i o e, i < m → l.toArray[i]? = some o → e ∈ o.after.toList → Region.binds .any e = true → e.on < i := fun i o e hi ho he hbd => by
    obtain ⟨d, -, -, -, h4⟩ := flow_dst hok (hpo i o hi ho)
    exact h4 e he hbd
  refine wp_region_any hm ?_
  have key := wpAny_inv_pre (P := P) (Q := Q) hsz hsuf (fun listed a w => listed.size = m + n ∧ Flow W0 a0 (l.take m).toArray (facts Fs) (listed.extract 0 m) a w) ?_ ?_ ?_ m (Array.replicate l.toArray.size false) a0 { W0 with drawn := W0.drawn + 1 } (by simp) ?_ ?_ ?_
  · rw [Nat.add_comm] at key; rw [← hsz] at key; exact key
  · rintro listed a w i hs ⟨hI0, hI⟩ him hi
    obtain ⟨o, ho, hd⟩ := ready_of hi
    have ho' := hpo i o him ho
    have hl : (l.take m)[i]? = some o := by simpa using ho'
    have hst := each.at_ i o hl
    rw [Nat.zero_add] at hst
    have hext : ∀ j : Nat, j < m → (listed.extract 0 m).getD j false = listed.getD j false := fun j hj => by
      rw [Array.getD_eq_getD_getElem?, Array.getD_eq_getD_getElem?, Array.getElem?_extract, if_pos (by omega), Nat.zero_add]
    have hset : (listed.setIfInBounds i true).extract 0 m = (listed.extract 0 m).setIfInBounds i true := by
      refine Array.ext_getElem? fun j => ?_
      rw [Array.getElem?_extract]
      by_cases hj : j < m
      · rw [if_pos (by simp; omega), Nat.zero_add]
        by_cases e : i = j
        · subst e
          rw [Array.getElem?_setIfInBounds_self_of_lt (by omega), Array.getElem?_setIfInBounds_self_of_lt (by simp; omega)]
        · rw [Array.getElem?_setIfInBounds_ne e, Array.getElem?_setIfInBounds_ne e, Array.getElem?_extract, if_pos (by omega), Nat.zero_add]
      · rw [if_neg (by omega), Array.getElem?_eq_none (by simp; omega)]
    rcases hst a w hI.ext (fun i' d hw hd' => by
        obtain ⟨o', h1, h2⟩ := dstIs_spec hd'
        have hi' : i' < i := by
          obtain ⟨e, he, h2⟩ := Array.any_eq_true'.1 hw
          simp only [Bool.and_eq_true, beq_iff_eq] at h2
          rw [← h2.1]; exact hdep i o e him ho (by simpa using he) h2.2
        refine hI.slot i' o' d ?_ (hpo i' o' (by omega) h1) h2
        rw [hext i' (by omega)]; exact waitsFor_spec hw hd) (fun s h => hI.base s (freeSlot_spec h)) with ⟨h1, h2⟩ | ⟨h1, h2⟩
    · refine wpOp_step' ho h1 (h2 _ fun v w' hv hx => ⟨by simpa using hI0, ?_⟩)
      rw [hset]
      exact hI.put hok (facts_mono mono) (by simp; omega) ho' hv hx
    · refine wpOp_skip' ho h1 ⟨by simpa using hI0, ?_⟩
      rw [hset]
      exact hI.put hok (facts_mono mono) (by simp; omega) ho' h2 (Ext.refl _)
  · rintro listed a w hs ⟨hI0, hI⟩ hr
    have : ∀ (k j : Nat), j < k → j < m → listed.getD j false = true := by
      intro k
      induction k with
      | zero => intro j h; omega
      | succ k ih =>
        intro j h1 h2
        by_cases hl : listed.getD j false = true
        · exact hl
        · exfalso
          have hj : l.toArray[j]? = some l.toArray[j] := Array.getElem?_eq_getElem (by omega)
          have hmem : j ∈ Region.ready .any l.toArray listed := by
            unfold Region.ready
            refine List.mem_filter.2 ⟨List.mem_range.2 (by omega), ?_⟩
            rw [hj]
            simp only [Bool.and_eq_true, Option.map_some, Option.getD_some]
            refine ⟨?_, Array.all_eq_true'.2 fun e he => ?_⟩
            · have h2' : j < listed.size := by omega
              simp only [Array.getD, h2', dif_pos] at hl ⊢
              simpa using hl
            · cases hbd : Region.binds .any e with
              | false => rfl
              | true =>
                have he' := hdep j _ e h2 hj (by simpa using he) hbd
                rw [ih e.on (by omega) (by omega)]; rfl
          rw [hr] at hmem; cases hmem
    exact fun j hj => this (j + 1) j (Nat.lt_succ_self j) hj
  · rintro a w ⟨-, hI⟩
    have hx := rest w hI.ext
    obtain ⟨vs, g1, g2, g3⟩ := forFacts_get (a := a) (os := l.take m) (by rw [hfl, hlt]) hx (fun j o hj => by
      obtain ⟨d, h1, h2, -, -⟩ := flow_dst hok (by simpa using hj)
      have hjm : j < m := by have := (List.getElem?_eq_some_iff.1 hj).1; omega
      obtain ⟨v, k1, k2⟩ := hI.slot j o d (by
        rw [Array.getD_eq_getD_getElem?, Array.getElem?_extract]
        rw [if_pos (by simp [preL]; omega)]
        simp [preL, List.getElem?_append, hjm]) (by simpa using hj) h1
      exact ⟨d, v, h1, k1, k2⟩)
    have ha : a = putAll a0 (l.take m) vs := eq_putAll g1 hI.size hI.defers (fun s hs => hI.base s (fun j o ho => hs o (by
        have : (l.take m)[j]? = some o := by simpa using ho
        exact List.mem_of_getElem? this))) (fun j o d hj hd => by
      obtain ⟨d', h1, h2, -, -⟩ := flow_dst hok (j := j) (by simpa using hj)
      rw [hd] at h1; injection h1 with h1; subst h1
      exact ⟨h2, g3 j o d hj hd⟩)
    rw [ha]; exact g2
  · rw [Array.toList_replicate, List.count_replicate]; simp; omega
  · intro j hj
    rw [Array.getD_eq_getD_getElem?, Array.getElem?_replicate]
    split <;> rfl
  · exact ⟨by simpa using hsz, ⟨(Ext.refl W0).drew, rfl, rfl, fun s _ => rfl, fun j o d h _ _ => by
      rw [Array.getD_eq_getD_getElem?, Array.getElem?_extract] at h
      split at h
      · rw [Array.getElem?_replicate] at h; split at h <;> cases h
      · cases h⟩⟩
end Go.Proofs.YtgohhcnmkomafaaGreatDoor
