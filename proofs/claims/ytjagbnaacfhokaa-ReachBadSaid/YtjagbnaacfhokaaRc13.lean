/- walker.reach: a place is reached. -/
import Derived.Test.YtjagbnaacfhokaaRc12
import Derived.Laws.IdiomStrings
import Derived.Test.YtjagbnaacfhokaaRc02
namespace Go.Proofs.Ytjagbnaacfhokaa
set_option linter.unusedVariables false
set_option linter.unusedSimpArgs false
open Go.RowKit

abbrev B8 (x : Int) : Value := .int .u8 x
theorem tab_byte : (Try.prog.info? 5).map (fun i => (i.zero, i.size, i.bytes)) = some (some (.int .u8 0), 1, 1) := by kernel_rfl
theorem b8_next {l : List Int} {k : Nat} {x : Int} (h : l[k]? = some x) : (l.take (k + 1)).map B8 = (l.take k).map B8 ++ [B8 x] := by rw [List.take_add_one, h]; simp
theorem conv_key {w : World} {base n : Nat} {s : Value} {r : List Int} (h : w.ownsRow base 5 1 s n (r.map B8)) (h01 : ∀ x ∈ r, x = 0 ∨ x = 1) : (convert 152 9 s).run Try.prog w = .ok (SK (keyK r)) w := by
  have hl : r.length = n := by have := h.1; simpa using this
  rcases h.2 with ⟨rfl, h0⟩ | ⟨g, cap, cur, rfl, _⟩
  · subst h0
    obtain rfl : r = [] := List.eq_nil_of_length_eq_zero hl
    rw [run_convert_bytes_string w 152 9 5 none 0 0 Try.underlying152 Try.underlying5 Try.underlying9]
    simp [Conv.bytesToString, keyK, SK]
    rfl
  · have hk : (keyK r).length = n := by unfold keyK; simpa using hl
    have e := run_convert_bytes_back (P := Try.prog) w 152 9 5 ⟨g, 0, none⟩ cap (keyK r) Try.underlying152 Try.underlying5 Try.underlying9 (fun j hj => by
      have hc := h.cellAt j (by omega)
      rw [add_plain', Nat.zero_add, hc, List.getElem?_map, List.getElem?_eq_getElem (show j < r.length by omega)]
      have hx := h01 _ (List.getElem_mem (show j < r.length by omega))
      simp only [keyK, List.getElem_map, Option.map_some]
      rcases hx with e | e <;> rw [e] <;> rfl)
    rw [hk] at e
    exact e
/-- The walker, as it stands after the places ps. -/
structure WalkerW (w : World) (base b : Nat) (i : Int) (G R O : Value) (mb : Nat) (s : Value) (ps : List Place) (vs : List (Value × Value)) : Prop where
  box : Box w b 107 [I i, G, R, O, .map (some mb), s]
  map : ∃ f, MapK w mb ps.length f ∧ SeenOf ps f
  rows : OwnP w base 110 s ps vs
  hge : base ≤ b ∧ base ≤ mb
section
variable {w w' : World} {base b : Nat} {i : Int} {G R O : Value} {mb : Nat} {s : Value} {ps : List Place} {vs : List (Value × Value)}
theorem WalkerW.ext (h : WalkerW w base b i G R O mb s ps vs) (hx : Ext w w') : WalkerW w' base b i G R O mb s ps vs := by
  obtain ⟨f, h1, h2⟩ := h.map
  exact ⟨h.box.ext hx, ⟨f, h1.ext hx, h2⟩, h.rows.ext hx, h.hge⟩
end
/-- A place more, if it is new; none: there are too many. -/
def addM (ps : List Place) (p : Place) : Option (List Place) := if seenM ps p.1 then some ps else if ps.length = 64 then none else some (ps ++ [p])
/-- All other blocks are as they were, and the row of places lies in none of them. -/
def Beside (w w' : World) (b mb : Nat) (s s' : Value) : Prop := ∀ k, k < w.heap.size → k ≠ b → k ≠ mb → some k ≠ s.ownBlock → w'.heap[k]? = w.heap[k]? ∧ some k ≠ s'.ownBlock
theorem Beside.ext {w w' : World} {b mb : Nat} {s : Value} (h : Ext w w') : Beside w w' b mb s s := fun k hk _ _ h4 => ⟨h.block k hk, h4⟩
theorem Beside.box {w w' : World} {b mb : Nat} {s s' : Value} (h : Beside w w' b mb s s') {g : Nat} {T : TypeId} {cs : List Value} (hb : Box w g T cs) (h1 : g ≠ b) (h2 : g ≠ mb) (h3 : some g ≠ s.ownBlock) : Box w' g T cs ∧ some g ≠ s'.ownBlock :=
  have q := h g hb.lt h1 h2 h3
  ⟨q.1.trans hb, q.2⟩
theorem Box.ne {w : World} {b g : Nat} {T T' : TypeId} {cs cs' : List Value} (h : Box w b T cs) (k : Box w g T' cs') (hne : T ≠ T') : b ≠ g := by
  rintro rfl
  unfold Box at h k
  rw [h] at k
  injection k with k; injection k with _ k
  exact hne k
theorem tab_place : (Try.prog.info? 110).map (fun i => (i.zero, i.size, i.bytes)) = some (some (.agg #[.slice none 0 0, .slice none 0 0]), 2, 48) := by kernel_rfl
section
variable {w w' : World} {base b : Nat} {i : Int} {G R O : Value} {mb : Nat} {s : Value} {ps : List Place} {vs : List (Value × Value)}
theorem WalkerW.lts (h : WalkerW w base b i G R O mb s ps vs) : base ≤ w.heap.size ∧ b < w.heap.size ∧ mb < w.heap.size := by
  obtain ⟨f, h1, h2⟩ := h.map
  have := h.box.lt; have := h1.lt; have := h.hge
  omega
end
/-- What reach tells. -/
def WentTo (q : Option (List Place)) (e : Ending) (w' : World) (base b : Nat) (i : Int) (G R O : Value) (mb : Nat) (s' : Value) (vs' : List (Value × Value)) : Prop :=
  match q with
  | none => e = .returned (.bool false)
  | some qs => e = .returned (.bool true) ∧ WalkerW w' base b i G R O mb s' qs vs'
structure ReachP (w w' : World) (base b mb : Nat) (i : Int) (G R O : Value) (s : Value) (q : Option (List Place)) (e : Ending) : Prop where
  below : Below base w w'
  went : ∃ s' vs', Beside w w' b mb s s' ∧ WentTo q e w' base b i G R O mb s' vs'
set_option maxRecDepth 100000 in
set_option maxHeartbeats 4000000 in
theorem reach_any (base b : Nat) (i : Int) (G R O : Value) (mb : Nat) (s : Value) (ps : List Place) (vs : List (Value × Value)) (A : Option Addr) (n c : Nat) (vw : Value) (r way : List Int) (w : World) (h : WalkerW w base b i G R O mb s ps vs)
    (h1 : w.ownsRow base 3 1 (.slice A n c) n (r.map I)) (h2 : w.ownsRow base 3 1 vw way.length (way.map I)) (hn : n ≤ 1000) (h01 : ∀ x ∈ r, x = 0 ∨ x = 1) (h64 : ps.length ≤ 64) :
    Calls Try.prog 124 #[.pointer (some ⟨b, 0, none⟩), .agg #[.slice A n c, vw]] w fun e w' => ReachP w w' base b mb i G R O s (addM ps (r, way)) e := by
  obtain ⟨W, hW⟩ : ∃ W, W = w.alloc (.cells #[.slice A n c, vw] 110) := ⟨_, rfl⟩
  have hxW : Ext w W := by rw [hW]; exact (Ext.refl _).alloc _
  have p0 : W.cell? ⟨w.heap.size, 0, none⟩ = some (.slice A n c) := by rw [hW, World.cell?_alloc_new]; rfl
  have hbp : Box W w.heap.size 110 [.slice A n c, vw] := by rw [hW]; exact Box.new w _ _
  have hlts := h.lts
  obtain ⟨A1, c1, e1, -, -, hsl⟩ := own_sl h1
  injection e1 with e1 _ e2; subst e1; subst e2
  have hrl : r.length = n := hsl.len
  have H := Lib.hid (hsl.keep hxW.keeps); have HW := Lib.hid hW; have HX := Lib.hid hxW; have H01 := Lib.hid h01; have HWK := Lib.hid (h.ext hxW); have H1 := Lib.hid (own_ext h1 hxW); have H2 := Lib.hid (own_ext h2 hxW)
  have HBP := Lib.hid hbp; have HRL := Lib.hid hrl; have HLT := Lib.hid hlts; have HWKS := Lib.hid h
  obtain ⟨pn, hpn⟩ : ∃ pn, pn = ps.length := ⟨_, rfl⟩
  have HPN := Lib.hid hpn
  obtain ⟨pA, pc, rfl, -, -, -⟩ := own_slice h.rows.row
  rw [hW] at p0
  rw [← hpn] at h64
  clear h hW hxW h01 h1 h2 hsl hbp hrl hlts
  rw [← hpn] at HWK HWKS
  clear hpn
  go_enter Try.func124, Try.ntmps124
  go_wp2_with fail
  rw [← HW.out]
  clear p0
  go_loopw [5, 12] (fun s j wr => ∃ (k : Nat), k ≤ n ∧ j = .int .i64 k ∧ Ext W wr ∧ wr.ownsRow W.heap.size 5 1 s k ((r.take k).map B8)) (fun _ j _ => n - (intOf j).toNat)
  case atStart => exact ⟨0, Nat.zero_le _, rfl, Ext.refl _, World.ownsRow_nil _ _ _ _⟩
  case round =>
    obtain ⟨k, hk, rfl, hext, hown⟩ := hrel
    by_cases hlt : k < n
    · obtain ⟨b2, off, x, rfl, hc0, hx⟩ := H.out.at_ hlt
      have hc := hext.keeps _ _ hc0
      have HO := Lib.hid hown; have HM := Lib.hid (b8_next hx); have HE := Lib.hid hext
      have hwr : IntKind.u8.wrap x = x := by rcases H01.out x (List.mem_of_getElem? hx) with rfl | rfl <;> rfl
      clear hown hc0 hx hext h64
      go_wp2_with (at_builtin; refine wpList_push rfl (.tmp 16) (.tmp 19) 152 5 rfl tab_byte Try.underlying152 rfl (by omega) W wr HE.out _ k _ rfl HO.out [B8 x] rfl rfl rfl (by simp [Value.oneCell']) (by unfold maxLen; omega) (by omega) ?_; intro v' w2 hown2 hx3 _)
      go_roundw
      case rel => exact ⟨k + 1, by omega, by go_num, hx3, by rw [HM.out]; exact hown2⟩
      case measure => simp [intOf]; omega
    · obtain rfl : k = n := by omega
      have htk : r.take k = r := List.take_of_length_le (by rw [HRL.out]; exact Nat.le_refl _)
      rw [htk] at hown
      have hcv := conv_key hown H01.out
      obtain ⟨wb, hwb⟩ : ∃ q, q = wr := ⟨_, rfl⟩
      subst hwb
      have hw := HWK.out.ext hext
      obtain ⟨f, hmap, hseen⟩ := hw.map
      rw [← HPN.out] at hmap
      have hf := hseen r H01.out
      have hkl : (keyK r).length ≤ maxLen := by unfold keyK maxLen; rw [List.length_map, HRL.out]; omega
      have m0 := hw.box.cell
      have m4 := (m0 4).trans rfl; have m5 := (m0 5).trans rfl
      simp only [List.getElem?_cons_zero, List.getElem?_cons_succ] at m4 m5
      have HF := Lib.hid hf; have HMAP := Lib.hid hmap; have HSEEN := Lib.hid hseen; have HWB := Lib.hid hw; have HKL := Lib.hid hkl; have XB := Lib.hid (HX.out.trans hext); have XBW := Lib.hid hext
      clear m0 hf hmap hseen hw hkl hown htk hext
      have hadd : Hid (addM ps (r, way) = if seenM ps r then some ps else if ps.length = 64 then none else some (ps ++ [(r, way)])) := rfl
      cases hs : seenM ps r with
      | true =>
        rw [hs] at HF hadd
        have hA : Hid (addM ps (r, way) = some ps) := hadd.out
        clear hadd
        have HF1 : Hid (f (keyK r) = 1) := HF.out
        go_wp2_with (refine wpList_lookupK rfl _ _ rfl mb pn f rfl HMAP.out (keyK r) rfl HKL.out 1 HF1.out ?_)
        go_ret
        refine ⟨Below.mono XB.out HLT.out.1, _, vs, Beside.ext XB.out, ?_⟩
        rw [hA.out]
        exact ⟨rfl, by have := HWB.out; rw [HPN.out] at this; exact this⟩
      | false =>
        rw [hs] at HF hadd
        have HF0 : Hid (f (keyK r) = 0) := HF.out
        by_cases he : pn = 64
        · have hA : Hid (addM ps (r, way) = none) := hadd.out.trans (by rw [← HPN.out, he]; rfl)
          clear hadd
          subst he
          go_wp2_with (refine wpList_lookupK rfl _ _ rfl mb _ f rfl HMAP.out (keyK r) rfl HKL.out 0 HF0.out ?_)
          go_ret
          refine ⟨Below.mono XB.out HLT.out.1, _, vs, Beside.ext XB.out, ?_⟩
          rw [hA.out]
          exact rfl
        · have hA : Hid (addM ps (r, way) = some (ps ++ [(r, way)])) := hadd.out.trans (by rw [← HPN.out, if_neg (by simp), if_neg he])
          clear hadd
          have hlt2 : pn < 64 := by omega
          go_upto_region 12 with (refine wpList_lookupK rfl _ _ rfl mb pn f rfl HMAP.out (keyK r) rfl HKL.out 0 HF0.out ?_)
          go_wp2_with (refine wpList_updateK rfl _ _ _ rfl mb pn f rfl HMAP.out (by unfold maxLen; omega) (keyK r) 1 rfl rfl HKL.out rfl ?_; intro wq hmq hgq)
          have hbw := HWB.out.box
          have hnb : b ≠ mb := HMAP.out.ne_box hbw
          have hbq := hbw.kept hgq (fun e => hnb (by injection e with e; exact e.symm))
          have hpb := HBP.out.ext XBW.out
          have hnp : w.heap.size ≠ mb := HMAP.out.ne_box hpb
          have hpq := hpb.kept hgq (fun e => hnp (by injection e with e; exact e.symm))
          have hrq := HWB.out.rows.mapped HMAP.out hgq
          have h1b := own_ext H1.out XBW.out; have h2b := own_ext H2.out XBW.out
          have h1q := h1b.kept hgq (.inr fun e => HMAP.out.ne_row h1b e.symm)
          have h2q := h2b.kept hgq (.inr fun e => HMAP.out.ne_row h2b e.symm)
          have HBQ := Lib.hid hbq; have HPQ := Lib.hid hpq; have HRQ := Lib.hid hrq; have H1Q := Lib.hid h1q; have H2Q := Lib.hid h2q; have HMQ := Lib.hid hmq; have HGQ := Lib.hid hgq
          have M5 : Hid (wq.cell? ⟨b, 5, none⟩ = some (.slice pA pn pc)) := hbq.cell 5
          have P0 : Hid (wq.cell? ⟨w.heap.size, 0, none⟩ = some (.slice A k c)) := hpq.cell 0
          have P1 : Hid (wq.cell? ⟨w.heap.size, 1, none⟩ = some vw) := hpq.cell 1
          clear hbw hnb hbq hpb hnp hpq hrq h1b h2b h1q h2q hmq hgq m4 m5 hcv
          refine wp_flow5 6 4 (isV (.pointer (some ⟨b, 0, none⟩))) [isV (.pointer (some ⟨b, 0, none⟩)), isV (.pointer (some ⟨b, 0, none⟩)), isV (.pointer (some ⟨b, 5, none⟩)), isV (.slice pA pn pc), isV (.agg #[.slice A k c, vw]), fun v w => ∃ g, v = .slice (some ⟨g, 0, none⟩) 1 1 ∧ Box w g 110 [.slice A k c, vw]] (by kernel_rfl) rfl rfl (by kernel_rfl) (by kernel_rfl) ⟨isV_mono, isV_mono, isV_mono, isV_mono, isV_mono, isV_mono, fun v w w' ⟨g, e, h⟩ hx => ⟨g, e, h.ext hx⟩, trivial⟩ ?each ?rest ?restZ
          case each =>
            refine .cons ?_ (.cons ?_ (.cons ?_ (.cons ?_ (.cons ?_ (.cons ?_ (.cons ?_ (.nil)))))))
            · intro fa fw hx hs hb
              have s0 : fa.tmps[(0 : Nat)]? = some (.pointer (some ⟨b, 0, none⟩)) := (hb 0 (by kernel_rfl)).trans (by rfl)
              refine .inl ⟨wanted_free rfl, fun K hK => ?_⟩
              clear hs hb hx
              go_simp
              exact hK _ _ rfl (Ext.refl _)
            · intro fa fw hx hs hb
              have s0 : fa.tmps[(0 : Nat)]? = some (.pointer (some ⟨b, 0, none⟩)) := (hb 0 (by kernel_rfl)).trans (by rfl)
              refine .inl ⟨wanted_free rfl, fun K hK => ?_⟩
              clear hs hb hx
              go_simp
              exact hK _ _ rfl (Ext.refl _)
            · intro fa fw hx hs hb
              obtain ⟨_, s43, rfl⟩ := hs 1 43 (by kernel_rfl) (by kernel_rfl)
              refine .inl ⟨wanted_free rfl, fun K hK => ?_⟩
              clear hs hb hx
              go_simp
              exact hK _ _ rfl (Ext.refl _)
            · intro fa fw hx hs hb
              obtain ⟨_, s44, rfl⟩ := hs 2 44 (by kernel_rfl) (by kernel_rfl)
              refine .inl ⟨wanted_free rfl, fun K hK => ?_⟩
              clear hs hb hx
              go_simp
              exact hK _ _ rfl (Ext.refl _)
            · intro fa fw hx hs hb
              obtain ⟨_, s45, rfl⟩ := hs 3 45 (by kernel_rfl) (by kernel_rfl)
              have c0 := hx.keeps _ _ M5.out
              refine .inl ⟨wanted_free rfl, fun K hK => ?_⟩
              clear hs hb hx
              go_simp
              exact hK _ _ rfl (Ext.refl _)
            · intro fa fw hx hs hb
              have s3 : fa.tmps[(3 : Nat)]? = some (.pointer (some ⟨w.heap.size, 0, none⟩)) := (hb 3 (by kernel_rfl)).trans (by rfl)
              have c0 := hx.keeps _ _ P0.out
              have c1 := hx.keeps _ _ P1.out
              refine .inl ⟨wanted_free rfl, fun K hK => ?_⟩
              clear hs hb hx
              go_simp
              exact hK _ _ rfl (Ext.refl _)
            · intro fa fw hx hs hb
              obtain ⟨_, s47, rfl⟩ := hs 5 47 (by kernel_rfl) (by kernel_rfl)
              refine .inl ⟨wanted_free rfl, fun K hK => ?_⟩
              clear hs hb
              go_simp
              exact hK _ _ ⟨fw.heap.size, rfl, Box.new fw _ _⟩ ((Ext.refl _).alloc _)
          case rest =>
            intro w5 hxw5
            rintro _ rfl
            rintro _ rfl
            rintro _ rfl
            rintro _ rfl
            rintro _ rfl
            rintro _ rfl
            rintro _ ⟨b48, rfl, k48⟩
            simp only [putAll, List.take, Act.put, List.setIfInBounds_toArray, List.set_cons_zero, List.set_cons_succ]
            obtain ⟨inf, hti, htz, hts1, hts2⟩ := info_parts tab_place
            have hr5 := HRQ.out.ext hxw5
            have hb5 := HBQ.out.ext hxw5
            have hm5 := HMQ.out.ext hxw5
            have hlt5 : base ≤ w5.heap.size := by have := hb5.lt; have := HWKS.out.hge; omega
            refine wpAny_ready (rs := [7]) (by kernel_rfl) (by simp) (AllReady.cons rfl (fun KK hKK => ?_) AllReady.nil)
            refine step_append_lies _ rfl (.tmp 46) (.tmp 48) 105 rfl base 110 inf _ 2 48 Try.underlying105 hti htz hts1 hts2 rfl (by omega) (.slice pA pn pc) pn (placeCs vs) rfl (by have := hr5.row; rw [← HPN.out] at this; exact this) ⟨b48, 0, none⟩ 1 1 [.slice A k c, vw] rfl rfl (fun j u hu => by rw [add_zero, k48.cell]; exact hu) (by
              obtain ⟨_, _, ev, -⟩ := own_slice H2.out
              intro u hu
              simp only [List.mem_cons, List.not_mem_nil, or_false] at hu
              rcases hu with rfl | rfl
              · rfl
              · rw [ev]; rfl) (by omega) (by unfold maxLen; omega) (by omega) hlt5 _ rfl ?_
            intro g6 cap6 w6 hown6 hgr6 hat6 hlt6
            refine hKK _ _ ?_
            clear hKK KK
            have hr6 := hr5.push (w' := w6) (v := (.slice A k c, vw)) (p := (r, way)) (by decide) (by rw [HRL.out]; exact own_ext H1Q.out hxw5) (own_ext H2Q.out hxw5) (by rw [← HPN.out]; exact hown6) hgr6
            have hrow : (Value.slice pA pn pc).ownBlock ≠ some b := hb5.apart hr5.row (by decide)
            have hb6 := hb5.kept hgr6 hrow
            have hm6 := hm5.kept hgr6 (hm5.ne_row hr5.row)
            have hnm : b ≠ mb := hm6.ne_box hb6
            have f6 := hb6.free
            have HB6 := Lib.hid hb6; have HR6 := Lib.hid hr6; have HM6 := Lib.hid hm6; have HNM := Lib.hid hnm; have HG6 := Lib.hid hgr6; have HAT := Lib.hid hat6; have X5 := Lib.hid hxw5
            have HRB := Lib.hid (fun q hq => (hr5.row.lt q hq).1); have HL6 := Lib.hid hlt6; have HL5 := Lib.hid hlt5
            have m5 := (hb6.cell 5).trans rfl
            simp only [List.getElem?_cons_zero, List.getElem?_cons_succ] at m5
            clear hb6 hr6 hm6 hb5 hr5 hm5 hrow hown6 hgr6 k48 hnm hat6 hlt6 hlt5 hxw5 hti htz hts1 hts2
            refine wpAny_ready (rs := [8]) (by kernel_rfl) (by simp) (AllReady.cons rfl (fun KK hKK => ?_) AllReady.nil)
            go_simp
            refine hKK _ _ ?_
            clear hKK KK
            refine wpAny_ready (rs := [9]) (by kernel_rfl) (by simp) (AllReady.cons rfl (fun KK hKK => ?_) AllReady.nil)
            go_simp
            refine hKK _ _ ?_
            clear hKK KK
            refine wpAny_ready (rs := [10]) (by kernel_rfl) (by simp) (AllReady.cons rfl (fun KK hKK => ?_) AllReady.nil)
            go_simp
            refine hKK _ _ ?_
            clear hKK KK
            refine wpAny_done (by kernel_rfl) ?_ _
            go_wp2
            go_ret
            obtain ⟨hl1, hl2, hl3⟩ := HLT.out
            have hge := HWKS.out.hge
            have hwq : Below base w wq := Below.grown (Below.mono XB.out hl1) HGQ.out (Nat.le_trans hl1 XB.out.size) (fun q hq => by injection hq with hq; omega)
            have hbl : Below base w w6 := Below.grown (hwq.trans (Below.mono X5.out (Nat.le_trans (Nat.le_trans hl1 XB.out.size) HGQ.out.size))) HG6.out HL5.out HRB.out
            refine ⟨hbl.setCell (p := ⟨b, 5, none⟩) hge.1 _, .slice (some ⟨g6, 0, none⟩) (pn + 1) cap6, vs ++ [(.slice A k c, vw)], ?_, ?_⟩
            · intro q hq q1 q2 q3
              rw [← HPN.out] at q3
              have hq1 := Nat.lt_of_lt_of_le hq XB.out.size
              have hq2 := Nat.lt_of_lt_of_le hq1 HGQ.out.size
              have hq3 := Nat.lt_of_lt_of_le hq2 X5.out.size
              refine ⟨?_, ?_⟩
              · rw [Below.heap_setCell _ _ _ _ (show q ≠ b from q1), HG6.out.block q hq3 q3, X5.out.block q hq2, HGQ.out.block q hq1 (by simpa using q2), XB.out.block q hq]
              · rcases HAT.out with e | e
                · intro e2
                  rw [e] at q3
                  exact q3 (by simpa [Value.ownBlock] using e2)
                · intro e2
                  simp only [Value.ownBlock, Option.some.injEq] at e2
                  omega
            · rw [hA.out]
              refine ⟨rfl, HB6.out.set 5 _, ⟨_, ?_, HSEEN.out.add (p := (r, way)) H01.out⟩, HR6.out.set HB6.out (by decide) (by decide) 5 _, hge⟩
              have := HM6.out.set HNM.out 5 (.slice (some ⟨g6, 0, none⟩) (pn + 1) cap6)
              rw [List.length_append, ← HPN.out]
              exact this
          case restZ =>
            intro w5 hxw5
            rintro _ rfl
            rintro _ rfl
            rintro _ rfl
            rintro _ rfl
            rintro _ rfl
            rintro _ ⟨b48, rfl, k48⟩
            simp only [putAll, List.take, Act.put, List.setIfInBounds_toArray, List.set_cons_zero, List.set_cons_succ]
            obtain ⟨inf, hti, htz, hts1, hts2⟩ := info_parts tab_place
            have hr5 := HRQ.out.ext hxw5
            have hb5 := HBQ.out.ext hxw5
            have hm5 := HMQ.out.ext hxw5
            have hlt5 : base ≤ w5.heap.size := by have := hb5.lt; have := HWKS.out.hge; omega
            refine wpAny_ready (rs := [0, 7]) (by kernel_rfl) (by simp) (AllReady.cons rfl (fun KK hKK => ?_) (AllReady.cons rfl (fun KK hKK => ?_) AllReady.nil))
            · go_simp
              refine hKK _ _ ?_
              clear hKK KK
              refine wpAny_ready (rs := [7]) (by kernel_rfl) (by simp) (AllReady.cons rfl (fun KK hKK => ?_) AllReady.nil)
              refine step_append_lies _ rfl (.tmp 46) (.tmp 48) 105 rfl base 110 inf _ 2 48 Try.underlying105 hti htz hts1 hts2 rfl (by omega) (.slice pA pn pc) pn (placeCs vs) rfl (by have := hr5.row; rw [← HPN.out] at this; exact this) ⟨b48, 0, none⟩ 1 1 [.slice A k c, vw] rfl rfl (fun j u hu => by rw [add_zero, k48.cell]; exact hu) (by
                obtain ⟨_, _, ev, -⟩ := own_slice H2.out
                intro u hu
                simp only [List.mem_cons, List.not_mem_nil, or_false] at hu
                rcases hu with rfl | rfl
                · rfl
                · rw [ev]; rfl) (by omega) (by unfold maxLen; omega) (by omega) hlt5 _ rfl ?_
              intro g6 cap6 w6 hown6 hgr6 hat6 hlt6
              refine hKK _ _ ?_
              clear hKK KK
              have hr6 := hr5.push (w' := w6) (v := (.slice A k c, vw)) (p := (r, way)) (by decide) (by rw [HRL.out]; exact own_ext H1Q.out hxw5) (own_ext H2Q.out hxw5) (by rw [← HPN.out]; exact hown6) hgr6
              have hrow : (Value.slice pA pn pc).ownBlock ≠ some b := hb5.apart hr5.row (by decide)
              have hb6 := hb5.kept hgr6 hrow
              have hm6 := hm5.kept hgr6 (hm5.ne_row hr5.row)
              have hnm : b ≠ mb := hm6.ne_box hb6
              have f6 := hb6.free
              have HB6 := Lib.hid hb6; have HR6 := Lib.hid hr6; have HM6 := Lib.hid hm6; have HNM := Lib.hid hnm; have HG6 := Lib.hid hgr6; have HAT := Lib.hid hat6; have X5 := Lib.hid hxw5
              have HRB := Lib.hid (fun q hq => (hr5.row.lt q hq).1); have HL6 := Lib.hid hlt6; have HL5 := Lib.hid hlt5
              have m5 := (hb6.cell 5).trans rfl
              simp only [List.getElem?_cons_zero, List.getElem?_cons_succ] at m5
              clear hb6 hr6 hm6 hb5 hr5 hm5 hrow hown6 hgr6 k48 hnm hat6 hlt6 hlt5 hxw5 hti htz hts1 hts2
              refine wpAny_ready (rs := [8]) (by kernel_rfl) (by simp) (AllReady.cons rfl (fun KK hKK => ?_) AllReady.nil)
              go_simp
              refine hKK _ _ ?_
              clear hKK KK
              refine wpAny_ready (rs := [9]) (by kernel_rfl) (by simp) (AllReady.cons rfl (fun KK hKK => ?_) AllReady.nil)
              go_simp
              refine hKK _ _ ?_
              clear hKK KK
              refine wpAny_ready (rs := [10]) (by kernel_rfl) (by simp) (AllReady.cons rfl (fun KK hKK => ?_) AllReady.nil)
              go_simp
              refine hKK _ _ ?_
              clear hKK KK
              refine wpAny_done (by kernel_rfl) ?_ _
              go_wp2
              go_ret
              obtain ⟨hl1, hl2, hl3⟩ := HLT.out
              have hge := HWKS.out.hge
              have hwq : Below base w wq := Below.grown (Below.mono XB.out hl1) HGQ.out (Nat.le_trans hl1 XB.out.size) (fun q hq => by injection hq with hq; omega)
              have hbl : Below base w w6 := Below.grown (hwq.trans (Below.mono X5.out (Nat.le_trans (Nat.le_trans hl1 XB.out.size) HGQ.out.size))) HG6.out HL5.out HRB.out
              refine ⟨hbl.setCell (p := ⟨b, 5, none⟩) hge.1 _, .slice (some ⟨g6, 0, none⟩) (pn + 1) cap6, vs ++ [(.slice A k c, vw)], ?_, ?_⟩
              · intro q hq q1 q2 q3
                rw [← HPN.out] at q3
                have hq1 := Nat.lt_of_lt_of_le hq XB.out.size
                have hq2 := Nat.lt_of_lt_of_le hq1 HGQ.out.size
                have hq3 := Nat.lt_of_lt_of_le hq2 X5.out.size
                refine ⟨?_, ?_⟩
                · rw [Below.heap_setCell _ _ _ _ (show q ≠ b from q1), HG6.out.block q hq3 q3, X5.out.block q hq2, HGQ.out.block q hq1 (by simpa using q2), XB.out.block q hq]
                · rcases HAT.out with e | e
                  · intro e2
                    rw [e] at q3
                    exact q3 (by simpa [Value.ownBlock] using e2)
                  · intro e2
                    simp only [Value.ownBlock, Option.some.injEq] at e2
                    omega
              · rw [hA.out]
                refine ⟨rfl, HB6.out.set 5 _, ⟨_, ?_, HSEEN.out.add (p := (r, way)) H01.out⟩, HR6.out.set HB6.out (by decide) (by decide) 5 _, hge⟩
                have := HM6.out.set HNM.out 5 (.slice (some ⟨g6, 0, none⟩) (pn + 1) cap6)
                rw [List.length_append, ← HPN.out]
                exact this
            · refine step_append_lies _ rfl (.tmp 46) (.tmp 48) 105 rfl base 110 inf _ 2 48 Try.underlying105 hti htz hts1 hts2 rfl (by omega) (.slice pA pn pc) pn (placeCs vs) rfl (by have := hr5.row; rw [← HPN.out] at this; exact this) ⟨b48, 0, none⟩ 1 1 [.slice A k c, vw] rfl rfl (fun j u hu => by rw [add_zero, k48.cell]; exact hu) (by
                obtain ⟨_, _, ev, -⟩ := own_slice H2.out
                intro u hu
                simp only [List.mem_cons, List.not_mem_nil, or_false] at hu
                rcases hu with rfl | rfl
                · rfl
                · rw [ev]; rfl) (by omega) (by unfold maxLen; omega) (by omega) hlt5 _ rfl ?_
              intro g6 cap6 w6 hown6 hgr6 hat6 hlt6
              refine hKK _ _ ?_
              clear hKK KK
              have hr6 := hr5.push (w' := w6) (v := (.slice A k c, vw)) (p := (r, way)) (by decide) (by rw [HRL.out]; exact own_ext H1Q.out hxw5) (own_ext H2Q.out hxw5) (by rw [← HPN.out]; exact hown6) hgr6
              have hrow : (Value.slice pA pn pc).ownBlock ≠ some b := hb5.apart hr5.row (by decide)
              have hb6 := hb5.kept hgr6 hrow
              have hm6 := hm5.kept hgr6 (hm5.ne_row hr5.row)
              have hnm : b ≠ mb := hm6.ne_box hb6
              have f6 := hb6.free
              have HB6 := Lib.hid hb6; have HR6 := Lib.hid hr6; have HM6 := Lib.hid hm6; have HNM := Lib.hid hnm; have HG6 := Lib.hid hgr6; have HAT := Lib.hid hat6; have X5 := Lib.hid hxw5
              have HRB := Lib.hid (fun q hq => (hr5.row.lt q hq).1); have HL6 := Lib.hid hlt6; have HL5 := Lib.hid hlt5
              have m5 := (hb6.cell 5).trans rfl
              simp only [List.getElem?_cons_zero, List.getElem?_cons_succ] at m5
              clear hb6 hr6 hm6 hb5 hr5 hm5 hrow hown6 hgr6 k48 hnm hat6 hlt6 hlt5 hxw5 hti htz hts1 hts2
              refine wpAny_ready (rs := [0]) (by kernel_rfl) (by simp) (AllReady.cons rfl (fun KK hKK => ?_) AllReady.nil)
              go_simp
              refine hKK _ _ ?_
              clear hKK KK
              refine wpAny_ready (rs := [8]) (by kernel_rfl) (by simp) (AllReady.cons rfl (fun KK hKK => ?_) AllReady.nil)
              go_simp
              refine hKK _ _ ?_
              clear hKK KK
              refine wpAny_ready (rs := [9]) (by kernel_rfl) (by simp) (AllReady.cons rfl (fun KK hKK => ?_) AllReady.nil)
              go_simp
              refine hKK _ _ ?_
              clear hKK KK
              refine wpAny_ready (rs := [10]) (by kernel_rfl) (by simp) (AllReady.cons rfl (fun KK hKK => ?_) AllReady.nil)
              go_simp
              refine hKK _ _ ?_
              clear hKK KK
              refine wpAny_done (by kernel_rfl) ?_ _
              go_wp2
              go_ret
              obtain ⟨hl1, hl2, hl3⟩ := HLT.out
              have hge := HWKS.out.hge
              have hwq : Below base w wq := Below.grown (Below.mono XB.out hl1) HGQ.out (Nat.le_trans hl1 XB.out.size) (fun q hq => by injection hq with hq; omega)
              have hbl : Below base w w6 := Below.grown (hwq.trans (Below.mono X5.out (Nat.le_trans (Nat.le_trans hl1 XB.out.size) HGQ.out.size))) HG6.out HL5.out HRB.out
              refine ⟨hbl.setCell (p := ⟨b, 5, none⟩) hge.1 _, .slice (some ⟨g6, 0, none⟩) (pn + 1) cap6, vs ++ [(.slice A k c, vw)], ?_, ?_⟩
              · intro q hq q1 q2 q3
                rw [← HPN.out] at q3
                have hq1 := Nat.lt_of_lt_of_le hq XB.out.size
                have hq2 := Nat.lt_of_lt_of_le hq1 HGQ.out.size
                have hq3 := Nat.lt_of_lt_of_le hq2 X5.out.size
                refine ⟨?_, ?_⟩
                · rw [Below.heap_setCell _ _ _ _ (show q ≠ b from q1), HG6.out.block q hq3 q3, X5.out.block q hq2, HGQ.out.block q hq1 (by simpa using q2), XB.out.block q hq]
                · rcases HAT.out with e | e
                  · intro e2
                    rw [e] at q3
                    exact q3 (by simpa [Value.ownBlock] using e2)
                  · intro e2
                    simp only [Value.ownBlock, Option.some.injEq] at e2
                    omega
              · rw [hA.out]
                refine ⟨rfl, HB6.out.set 5 _, ⟨_, ?_, HSEEN.out.add (p := (r, way)) H01.out⟩, HR6.out.set HB6.out (by decide) (by decide) 5 _, hge⟩
                have := HM6.out.set HNM.out 5 (.slice (some ⟨g6, 0, none⟩) (pn + 1) cap6)
                rw [List.length_append, ← HPN.out]
                exact this
end Go.Proofs.Ytjagbnaacfhokaa
