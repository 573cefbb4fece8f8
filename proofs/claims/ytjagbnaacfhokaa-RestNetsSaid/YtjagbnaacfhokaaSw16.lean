/- DropOf, by the reference. -/
import Derived.Test.YtjagbnaacfhokaaSw15
import Derived.Test.YtjagbnaacfhokaaSw11
import Derived.Lib.AppendZerosOnto
import Derived.Test.YtjagbnaacfhokaaSw07
import Derived.Test.YtjagbnaacfhokaaSw14
import Derived.Test.YtjagbnaacfhokaaSw02
namespace Go.Proofs.Ytjagbnaacfhokaa
set_option linter.unusedVariables false
set_option linter.unusedSimpArgs false
open Go.RowKit

theorem keepGs_next {f : GateM → GateM} {gs : List GateM} {l : List Bool} {k : Nat} {g : GateM} {b : Bool} (hg : gs[k]? = some g) (hb : l[k]? = some b) :
    keepGs f (gs.take (k + 1)) (l.take (k + 1)) = keepGs f (gs.take k) (l.take k) ++ (if b then [f g] else []) := by
  induction gs generalizing l k with
  | nil => simp at hg
  | cons x gs ih =>
    cases l with
    | nil => simp at hb
    | cons y l =>
      cases k with
      | zero => simp at hg hb; subst hg; subst hb; simp [keepGs]
      | succ k =>
        have := ih (l := l) (k := k) (by simpa using hg) (by simpa using hb)
        simp only [List.take_succ_cons, keepGs, this]
        split <;> simp
theorem keepGs_take_len (f : GateM → GateM) {gs : List GateM} {l : List Bool} (h : gs.length = l.length) (k : Nat) : (keepGs f (gs.take k) (l.take k)).length = cnt (l.take k) := keepGs_len f _ _ (by simp [h])
theorem storeCs_next {rs : List StoreM} {k : Nat} {r : StoreM} (h : rs[k]? = some r) : storeCs (rs.take (k + 1)) = storeCs (rs.take k) ++ [RB r, RN r] := by
  rw [take_snoc h]; simp [storeCs]
theorem OwnG.kept_of {w w' : World} {base base' : Nat} {s v' : Value} {gs : List GateM} {vs xs : List Value} {n : Nat} (h : OwnG w base s gs vs) (hr : w.ownsRow base' 78 2 v' n xs) (hg : w.grownBy w' v'.ownBlock) : OwnG w' base s gs vs := by
  refine h.kept hg (own_types h.row hr (by decide)) fun v hv => ?_
  obtain ⟨j, hj⟩ := List.mem_iff_getElem?.1 hv
  have hk : j < gs.length := by have := h.vl; have := (List.getElem?_eq_some_iff.1 hj).1; omega
  exact own_types (h.own j v _ hj (List.getElem?_eq_getElem hk)) hr (by decide)
section
variable (i : Int) (GA : Option Addr) (gn gc : Nat) (RA : Option Addr) (rn rc : Nat) (OA : Option Addr) (on oc : Nat) (N : NetM) (w : World)
set_option maxRecDepth 100000 in
set_option maxHeartbeats 8000000 in
theorem dropOf_any (h : NetC w i GA gn gc RA rn rc OA on oc N) (ok : NetOK N) :
    Calls Try.prog 63 #[netV i GA gn gc RA rn rc OA on oc] w fun e w' => NetRes1 w w' w.heap.size e (dropN N) := by
  have hgl : N.gates.length = gn := h.gates.1
  have hrl : N.regs.length = rn := h.regs.1
  have hol : N.outs.length = on := h.outs.len
  have hin := h.ins
  obtain ⟨W0, hW0⟩ : ∃ W, W = w.alloc (.cells #[I i, .slice GA gn gc, .slice RA rn rc, .slice OA on oc] 26) := ⟨_, rfl⟩
  have hx0 : Ext w W0 := by rw [hW0]; exact (Ext.refl _).alloc _
  obtain ⟨W, hW⟩ : ∃ W, W = W0.alloc (.cells #[I 0, .slice none 0 0, .slice none 0 0, .slice none 0 0] 26) := ⟨_, rfl⟩
  have hx1 : Ext W0 W := by rw [hW]; exact (Ext.refl _).alloc _
  have hs0 : W0.heap.size = w.heap.size + 1 := by rw [hW0]; simp
  have hbox : NetBox W w.heap.size i GA gn gc RA rn rc OA on oc := by
    have : NetBox W0 w.heap.size i GA gn gc RA rn rc OA on oc := by rw [hW0]; exact NetBox.new w i GA gn gc RA rn rc OA on oc _
    exact this.keep hx1.keeps
  have hz : Box W (w.heap.size + 1) 26 [I 0, .slice none 0 0, .slice none 0 0, .slice none 0 0] := by rw [← hs0, hW]; exact Box.new W0 _ _
  have HN := Lib.hid (h.keep (hx0.trans hx1).keeps); have HBox := Lib.hid hbox; have HX := Lib.hid (hx0.trans hx1); have HZ := Lib.hid hz
  have HW : Hid (W = (w.alloc (.cells #[I i, .slice GA gn gc, .slice RA rn rc, .slice OA on oc] 26)).alloc (.cells #[I 0, .slice none 0 0, .slice none 0 0, .slice none 0 0] 26)) := by unfold Hid; rw [hW, hW0]
  have hr20 : rn ≤ 20 := by have := ok.rl; omega
  have ho3 : on ≤ 3 := by have := ok.ol; omega
  have hg200 : gn ≤ 200 := by have := ok.gl; omega
  have hlk := keepGs_take_len (renG (toM N)) (gs := N.gates) (l := isM N) (is_len N).symm
  have hil : (isM N).length = gn := by rw [is_len, hgl]
  have htl : (toM N).length = gn := by rw [toM_len, hgl]
  have hio : inR gn N.outs := by have := ok.outs; rwa [hgl] at this
  have hinx : inR gn (nextsM N) := by have := ok.nexts; rwa [hgl] at this
  have HOK := Lib.hid ok; have HGL := Lib.hid hgl; have HIN := Lib.hid hin; have HLK := Lib.hid hlk; have HIL := Lib.hid hil; have HTL := Lib.hid htl; have HIO := Lib.hid hio; have HINX := Lib.hid hinx; have HRL := Lib.hid hrl
  clear h hW0 hx0 hW hx1 hs0 hbox hz ok hgl hrl hol hin hlk hil htl hio hinx
  obtain ⟨q0, q1, q2, q3⟩ := HBox.out
  go_enter Try.func63, Try.ntmps63
  go_wp2_with fail
  rw [← HW.out]
  refine (keptOf_any i GA gn gc RA rn rc OA on oc N W HN.out HOK.out).mono ?_; rintro e w1 ⟨v1, rfl, hown1, x1⟩
  obtain ⟨TA, tc, rfl, -, -, hts⟩ := own_sl hown1
  have hbx := HBox.out.keep x1.keeps
  have B0 : Hid (w1.cell? ⟨w.heap.size, 0, none⟩ = some (I i)) := hbx.1
  have B1 : Hid (w1.cell? ⟨w.heap.size, 1, none⟩ = some (.slice GA gn gc)) := hbx.2.1
  have B2 : Hid (w1.cell? ⟨w.heap.size, 2, none⟩ = some (.slice RA rn rc)) := hbx.2.2.1
  have B3 : Hid (w1.cell? ⟨w.heap.size, 3, none⟩ = some (.slice OA on oc)) := hbx.2.2.2
  have N1 := Lib.hid (HN.out.keep x1.keeps)
  have X1 := Lib.hid x1; have TS := Lib.hid hts
  have hpk : ∀ Q (LA : Option Addr) (ln lc : Nat) (l : List Int), Ext w1 Q → Sl Q LA ln (l.map I) → inR gn l → ln ≤ 1000000 → Calls Try.prog 96 #[.slice TA gn tc, .slice LA ln lc] Q fun e w' => ∃ r, e = .returned r ∧ w'.ownsRow Q.heap.size 3 1 r ln ((l.map (valI (toM N))).map I) ∧ Ext Q w' := fun Q LA ln lc l hQ hs hr hn =>
    picked_any TA gn tc LA ln lc (toM N) l Q (TS.out.keep hQ.keeps) hs hr hn
  have PK := Lib.hid hpk
  clear hown1 x1 hts hpk hbx q0 q1 q2 q3
  go_wp2_with fail
  refine wp_flow4 8 1 [isV (.pointer (some ⟨w.heap.size, 0, none⟩)), isV (I i), isV (.slice TA gn tc), isV (.pointer (some ⟨w.heap.size, 3, none⟩)), isV (.slice OA on oc), fun v w => ∃ A c, v = .slice A on c ∧ w.ownsRow w1.heap.size 3 1 (.slice A on c) on ((N.outs.map (valI (toM N))).map I), fun v w => ∃ A c, v = .agg #[I i, .slice none 0 0, .slice none 0 0, .slice A on c] ∧ w.ownsRow w1.heap.size 3 1 (.slice A on c) on ((N.outs.map (valI (toM N))).map I), fun v w => ∃ b, v = .pointer (some ⟨b, 0, none⟩) ∧ w1.heap.size ≤ b ∧ Box w b 26 [I 0, .slice none 0 0, .slice none 0 0, .slice none 0 0]] (by kernel_rfl) rfl rfl (by kernel_rfl) (by kernel_rfl) ⟨isV_mono, isV_mono, isV_mono, isV_mono, isV_mono, fun v w w' ⟨A, c, e, h⟩ hx => ⟨A, c, e, own_ext h hx⟩, fun v w w' ⟨A, c, e, h⟩ hx => ⟨A, c, e, own_ext h hx⟩, fun v w w' ⟨b, e, h, k⟩ hx => ⟨b, e, h, k.ext hx⟩, trivial⟩ ?each ?rest
  case each =>
    refine .cons ?_ (.cons ?_ (.cons ?_ (.cons ?_ (.cons ?_ (.cons ?_ (.cons ?_ (.cons ?_ (.nil))))))))
    · intro fa fw hx hs hb
      have s1 : fa.tmps[(1 : Nat)]? = some (.pointer (some ⟨w.heap.size, 0, none⟩)) := (hb 1 (by kernel_rfl)).trans (by rfl)
      refine .inl ⟨wanted_free rfl, fun K hK => ?_⟩
      clear hs hb hx
      go_simp
      exact hK _ _ rfl (Ext.refl _)
    · intro fa fw hx hs hb
      obtain ⟨_, s9, rfl⟩ := hs 0 9 (by kernel_rfl) (by kernel_rfl)
      have c0 := hx.keeps _ _ B0.out
      refine .inl ⟨wanted_free rfl, fun K hK => ?_⟩
      clear hs hb hx
      go_simp
      exact hK _ _ rfl (Ext.refl _)
    · intro fa fw hx hs hb
      have s3 : fa.tmps[(3 : Nat)]? = some (.slice TA gn tc) := (hb 3 (by kernel_rfl)).trans (by rfl)
      refine .inl ⟨wanted_free rfl, fun K hK => ?_⟩
      clear hs hb hx
      go_simp
      exact hK _ _ rfl (Ext.refl _)
    · intro fa fw hx hs hb
      have s1 : fa.tmps[(1 : Nat)]? = some (.pointer (some ⟨w.heap.size, 0, none⟩)) := (hb 1 (by kernel_rfl)).trans (by rfl)
      refine .inl ⟨wanted_free rfl, fun K hK => ?_⟩
      clear hs hb hx
      go_simp
      exact hK _ _ rfl (Ext.refl _)
    · intro fa fw hx hs hb
      obtain ⟨_, s12, rfl⟩ := hs 3 12 (by kernel_rfl) (by kernel_rfl)
      have c0 := hx.keeps _ _ B3.out
      refine .inl ⟨wanted_free rfl, fun K hK => ?_⟩
      clear hs hb hx
      go_simp
      exact hK _ _ rfl (Ext.refl _)
    · intro fa fw hx hs hb
      obtain ⟨_, s11, rfl⟩ := hs 2 11 (by kernel_rfl) (by kernel_rfl)
      obtain ⟨_, s13, rfl⟩ := hs 4 13 (by kernel_rfl) (by kernel_rfl)
      refine .inl ⟨wanted_free rfl, fun K hK => ?_⟩
      clear hs hb
      go_simp
      refine (PK.out fw OA on oc N.outs hx (N1.out.outs.keep hx.keeps) HIO.out (by omega)).mono ?_
      rintro e w' ⟨r0, rfl, ho, xq⟩
      obtain ⟨Aq, cq, rfl, -, -, -⟩ := own_sl ho
      exact hK _ _ ⟨Aq, cq, rfl, own_base ho hx.size⟩ xq
    · intro fa fw hx hs hb
      obtain ⟨_, s10, rfl⟩ := hs 1 10 (by kernel_rfl) (by kernel_rfl)
      obtain ⟨_, s14, A14, c14, rfl, q14⟩ := hs 5 14 (by kernel_rfl) (by kernel_rfl)
      refine .inl ⟨wanted_free rfl, fun K hK => ?_⟩
      clear hs hb
      go_simp
      exact hK _ _ ⟨A14, c14, rfl, q14⟩ (Ext.refl _)
    · intro fa fw hx hs hb
      refine .inl ⟨wanted_free rfl, fun K hK => ?_⟩
      clear hs hb
      go_simp
      exact hK _ _ ⟨fw.heap.size, rfl, hx.size, Box.new fw _ _⟩ ((Ext.refl _).alloc _)
  case rest =>
    intro w3 hxw3
    rintro _ rfl
    rintro _ rfl
    rintro _ rfl
    rintro _ rfl
    rintro _ rfl
    rintro _ ⟨A14, c14, rfl, q14⟩
    rintro _ ⟨A15, c15, rfl, q15⟩
    rintro _ ⟨b4, rfl, h4, k4⟩
    simp only [putAll, List.take, Act.put, List.setIfInBounds_toArray, List.set_cons_zero, List.set_cons_succ]
    have K7 := Lib.hid k4; have H7 := Lib.hid h4
    have m0 := (k4.cell 0).trans rfl; have m1 := (k4.cell 1).trans rfl; have m2 := (k4.cell 2).trans rfl; have m3 := (k4.cell 3).trans rfl
    simp only [List.getElem?_cons_zero, List.getElem?_cons_succ] at m0 m1 m2 m3
    have f7 := k4.free
    refine wpAny_ready (rs := [8]) (by kernel_rfl) (by simp) (AllReady.cons rfl (fun KK hKK => ?_) AllReady.nil)
    have HOO := Lib.hid q15
    have X3 := Lib.hid hxw3
    clear q15 hxw3 k4 h4 q14
    go_simp
    refine hKK _ _ ?_
    clear hKK KK m0 m1 m2 m3 f7
    refine wpAny_done (by kernel_rfl) ?_ _
    obtain ⟨w4, hw4⟩ : ∃ w4, w4 = (((w3.setCell ⟨b4, 0, none⟩ (I i)).setCell ⟨b4, 1, none⟩ (.slice none 0 0)).setCell ⟨b4, 2, none⟩ (.slice none 0 0)).setCell ⟨b4, 3, none⟩ (.slice A15 on c15) := ⟨_, rfl⟩
    have hk4 : Box w4 b4 26 [I i, .slice none 0 0, .slice none 0 0, .slice A15 on c15] := by rw [hw4]; exact (((K7.out.set 0 (I i)).set 1 (.slice none 0 0)).set 2 (.slice none 0 0)).set 3 (.slice A15 on c15)
    have ao := K7.out.apart HOO.out (by decide)
    have ho4 : w4.ownsRow w1.heap.size 3 1 (.slice A15 on c15) on ((N.outs.map (valI (toM N))).map I) := by rw [hw4]; exact own_set (own_set (own_set (own_set HOO.out ao _ _) ao _ _) ao _ _) ao _ _
    have hx4 : Ext w1 w4 := by rw [hw4]; exact (((X3.out.setCell (p := ⟨b4, 0, none⟩) H7.out _).setCell (p := ⟨b4, 1, none⟩) H7.out _).setCell (p := ⟨b4, 2, none⟩) H7.out _).setCell (p := ⟨b4, 3, none⟩) H7.out _
    have HW4 := Lib.hid hw4; have HK4 := Lib.hid hk4; have HO4 := Lib.hid ho4; have HX4 := Lib.hid hx4
    clear hw4 hk4 ho4 hx4 ao HOO K7
    rw [← HW4.out]
    go_wp2_with fail
    clear HW4
    go_loopw [5] (fun j wr => ∃ (k : Nat) (A : Option Addr) (c : Nat) (vs : List Value), k ≤ gn ∧ j = .int .i64 k ∧ Ext w1 wr ∧ Box wr b4 26 [I i, .slice A (cnt ((isM N).take k)) c, .slice none 0 0, .slice A15 on c15] ∧ OwnG wr w1.heap.size (.slice A (cnt ((isM N).take k)) c) (keepGs (renG (toM N)) (N.gates.take k) ((isM N).take k)) vs ∧
      wr.ownsRow w1.heap.size 3 1 (.slice A15 on c15) on ((N.outs.map (valI (toM N))).map I)) (fun j _ => gn - (intOf j).toNat)
    case atStart => exact ⟨0, none, 0, [], Nat.zero_le _, rfl, HX4.out, HK4.out, OwnG.nil _ _, HO4.out⟩
    case round =>
      obtain ⟨k, A, c, vs, hk, rfl, hext, hbx, hog, hoo⟩ := hrel
      have hB1 := hext.keeps _ _ B1.out
      by_cases hlt : k < gn
      · obtain ⟨b, off, A', m', c', g, rfl, c0, c1, c2, hsg, hmc, hcm, -, hg⟩ := (N1.out.keep hext.keeps).gates.next hlt
        obtain ⟨tb, tf, y, rfl, ht0, hty⟩ := TS.out.at_ hlt
        have hct := hext.keeps _ _ ht0
        obtain ⟨bk, hbk⟩ : ∃ bk, (isM N)[k]? = some bk := ⟨_, List.getElem?_eq_getElem (by rw [HIL.out]; exact hlt)⟩
        have hty2 := toM_at hbk
        rw [hty] at hty2
        have hyv : y = if bk then ((cnt ((isM N).take k) : Nat) : Int) else -1 := Option.some.inj hty2
        have hcn := cnt_next hbk
        have hkn := keepGs_next (f := renG (toM N)) hg hbk
        cases bk with
        | false =>
          simp only [Bool.false_eq_true, if_false, Nat.add_zero, List.append_nil] at hyv hcn hkn
          subst hyv
          have HE := Lib.hid hext; have HBX := Lib.hid hbx; have HOG := Lib.hid hog; have HOO := Lib.hid hoo; have HCN := Lib.hid hcn; have HKN := Lib.hid hkn
          clear hext hbx hog hoo hcn hkn hty hty2 hbk ht0 c0 c1 c2 hsg hmc hcm hg
          go_wp2
          go_roundw
          case rel => exact ⟨k + 1, A, c, vs, by omega, by go_num, HE.out, by rw [HCN.out]; exact HBX.out, by rw [HCN.out, HKN.out]; exact HOG.out, HOO.out⟩
          case measure => simp [intOf]; omega
        | true =>
          simp only [if_true] at hyv hcn hkn
          subst hyv
          have hml : m' ≤ 16 := by have := HOK.out.al g (List.mem_of_getElem? hg); have := hsg.len; omega
          have hgl : g.args.length = m' := hsg.len
          have hra : inR gn g.args := by have := HOK.out.gate (List.mem_of_getElem? hg); have h2 := this.args; rwa [HGL.out] at h2
          have hlen := HLK.out k
          have hc2 : cnt ((isM N).take k) ≤ 200 := by have := cnt_len ((isM N).take k); have := List.length_take_le k (isM N); omega
          obtain ⟨nk, hnk⟩ : ∃ nk, nk = cnt ((isM N).take k) := ⟨_, rfl⟩
          rw [← hnk] at hbx hog hcn hlen hc2
          have HEQ := Lib.hid hext; have HBXQ := Lib.hid hbx; have HOGQ := Lib.hid hog; have HOOQ := Lib.hid hoo; have HSG := Lib.hid hsg; have HLEN := Lib.hid hlen; have HGLA := Lib.hid hgl; have HKN := Lib.hid hkn; have HCN := Lib.hid hcn; have HRA := Lib.hid hra; have HNK := Lib.hid hnk
          have M1 : Hid (wr.cell? ⟨b4, 1, none⟩ = some (.slice A nk c)) := hbx.cell 1
          have C0 := Lib.hid c0; have C1 := Lib.hid c1; have C2 := Lib.hid c2; have D1 := Lib.hid hB1
          clear hbx hog hoo hsg hmc hcm hlen hg c0 c1 c2 hext hgl hkn hcn hra hty hty2 hbk ht0
          go_wp2_with fail
          clear hB1 hct hnk
          refine wp_flow4 24 3 [isV (.pointer (some ⟨b4, 1, none⟩)), isV (.slice A nk c), isV (.pointer (some ⟨w.heap.size, 1, none⟩)), isV (.slice (some ⟨b, off, none⟩) gn gc), isV (.int .i64 k), isV (.pointer (some ⟨b, off + k * 3, none⟩)), isV (.pointer (some ⟨b, off + k * 3, none⟩)), isV (I g.kind), isV (.pointer (some ⟨w.heap.size, 1, none⟩)), isV (.slice (some ⟨b, off, none⟩) gn gc), isV (.int .i64 k), isV (.pointer (some ⟨b, off + k * 3, none⟩)), isV (.pointer (some ⟨b, off + k * 3 + 1, none⟩)), isV (I g.num), isV (.slice (some ⟨tb, tf, none⟩) gn tc), isV (.pointer (some ⟨w.heap.size, 1, none⟩)), isV (.slice (some ⟨b, off, none⟩) gn gc), isV (.int .i64 k), isV (.pointer (some ⟨b, off + k * 3, none⟩)), isV (.pointer (some ⟨b, off + k * 3 + 2, none⟩)), isV (.slice A' m' c'), fun v w => ∃ A c, v = .slice A m' c ∧ w.ownsRow wr.heap.size 3 1 (.slice A m' c) m' ((g.args.map (valI (toM N))).map I), fun v w => ∃ A c, v = .agg #[I g.kind, I g.num, .slice A m' c] ∧ w.ownsRow wr.heap.size 3 1 (.slice A m' c) m' ((g.args.map (valI (toM N))).map I), fun v w => ∃ b A c, v = .slice (some ⟨b, 0, none⟩) 1 1 ∧ Box w b 34 [I g.kind, I g.num, .slice A m' c] ∧ w.ownsRow wr.heap.size 3 1 (.slice A m' c) m' ((g.args.map (valI (toM N))).map I)] (by kernel_rfl) rfl rfl (by kernel_rfl) (by kernel_rfl) ⟨isV_mono, isV_mono, isV_mono, isV_mono, isV_mono, isV_mono, isV_mono, isV_mono, isV_mono, isV_mono, isV_mono, isV_mono, isV_mono, isV_mono, isV_mono, isV_mono, isV_mono, isV_mono, isV_mono, isV_mono, isV_mono, fun v w w' ⟨A, c, e, h⟩ hx => ⟨A, c, e, own_ext h hx⟩, fun v w w' ⟨A, c, e, h⟩ hx => ⟨A, c, e, own_ext h hx⟩, fun v w w' ⟨b, A, c, e, h, k⟩ hx => ⟨b, A, c, e, h.ext hx, own_ext k hx⟩, trivial⟩ ?each ?rest
          case each =>
            refine .cons ?_ (.cons ?_ (.cons ?_ (.cons ?_ (.cons ?_ (.cons ?_ (.cons ?_ (.cons ?_ (.cons ?_ (.cons ?_ (.cons ?_ (.cons ?_ (.cons ?_ (.cons ?_ (.cons ?_ (.cons ?_ (.cons ?_ (.cons ?_ (.cons ?_ (.cons ?_ (.cons ?_ (.cons ?_ (.cons ?_ (.cons ?_ (.nil))))))))))))))))))))))))
            · intro fa fw hx hs hb
              have s4 : fa.tmps[(4 : Nat)]? = some (.pointer (some ⟨b4, 0, none⟩)) := (hb 4 (by kernel_rfl)).trans (by rfl)
              refine .inl ⟨wanted_free rfl, fun K hK => ?_⟩
              clear hs hb hx
              go_simp
              exact hK _ _ rfl (Ext.refl _)
            · intro fa fw hx hs hb
              obtain ⟨_, s28, rfl⟩ := hs 0 28 (by kernel_rfl) (by kernel_rfl)
              have c0 := hx.keeps _ _ M1.out
              refine .inl ⟨wanted_free rfl, fun K hK => ?_⟩
              clear hs hb hx
              go_simp
              exact hK _ _ rfl (Ext.refl _)
            · intro fa fw hx hs hb
              have s1 : fa.tmps[(1 : Nat)]? = some (.pointer (some ⟨w.heap.size, 0, none⟩)) := (hb 1 (by kernel_rfl)).trans (by rfl)
              refine .inl ⟨wanted_free rfl, fun K hK => ?_⟩
              clear hs hb hx
              go_simp
              exact hK _ _ rfl (Ext.refl _)
            · intro fa fw hx hs hb
              obtain ⟨_, s30, rfl⟩ := hs 2 30 (by kernel_rfl) (by kernel_rfl)
              have c0 := hx.keeps _ _ D1.out
              refine .inl ⟨wanted_free rfl, fun K hK => ?_⟩
              clear hs hb hx
              go_simp
              exact hK _ _ rfl (Ext.refl _)
            · intro fa fw hx hs hb
              have s5 : fa.tmps[(5 : Nat)]? = some (.int .i64 k) := (hb 5 (by kernel_rfl)).trans (by rfl)
              refine .inl ⟨wanted_free rfl, fun K hK => ?_⟩
              clear hs hb hx
              go_simp
              exact hK _ _ rfl (Ext.refl _)
            · intro fa fw hx hs hb
              obtain ⟨_, s31, rfl⟩ := hs 3 31 (by kernel_rfl) (by kernel_rfl)
              obtain ⟨_, s32, rfl⟩ := hs 4 32 (by kernel_rfl) (by kernel_rfl)
              refine .inl ⟨wanted_free rfl, fun K hK => ?_⟩
              clear hs hb hx
              go_simp
              exact hK _ _ rfl (Ext.refl _)
            · intro fa fw hx hs hb
              obtain ⟨_, s33, rfl⟩ := hs 5 33 (by kernel_rfl) (by kernel_rfl)
              refine .inl ⟨wanted_free rfl, fun K hK => ?_⟩
              clear hs hb hx
              go_simp
              exact hK _ _ rfl (Ext.refl _)
            · intro fa fw hx hs hb
              obtain ⟨_, s34, rfl⟩ := hs 6 34 (by kernel_rfl) (by kernel_rfl)
              have c0 := hx.keeps _ _ C0.out
              refine .inl ⟨wanted_free rfl, fun K hK => ?_⟩
              clear hs hb hx
              go_simp
              exact hK _ _ rfl (Ext.refl _)
            · intro fa fw hx hs hb
              have s1 : fa.tmps[(1 : Nat)]? = some (.pointer (some ⟨w.heap.size, 0, none⟩)) := (hb 1 (by kernel_rfl)).trans (by rfl)
              refine .inl ⟨wanted_free rfl, fun K hK => ?_⟩
              clear hs hb hx
              go_simp
              exact hK _ _ rfl (Ext.refl _)
            · intro fa fw hx hs hb
              obtain ⟨_, s36, rfl⟩ := hs 8 36 (by kernel_rfl) (by kernel_rfl)
              have c0 := hx.keeps _ _ D1.out
              refine .inl ⟨wanted_free rfl, fun K hK => ?_⟩
              clear hs hb hx
              go_simp
              exact hK _ _ rfl (Ext.refl _)
            · intro fa fw hx hs hb
              have s5 : fa.tmps[(5 : Nat)]? = some (.int .i64 k) := (hb 5 (by kernel_rfl)).trans (by rfl)
              refine .inl ⟨wanted_free rfl, fun K hK => ?_⟩
              clear hs hb hx
              go_simp
              exact hK _ _ rfl (Ext.refl _)
            · intro fa fw hx hs hb
              obtain ⟨_, s37, rfl⟩ := hs 9 37 (by kernel_rfl) (by kernel_rfl)
              obtain ⟨_, s38, rfl⟩ := hs 10 38 (by kernel_rfl) (by kernel_rfl)
              refine .inl ⟨wanted_free rfl, fun K hK => ?_⟩
              clear hs hb hx
              go_simp
              exact hK _ _ rfl (Ext.refl _)
            · intro fa fw hx hs hb
              obtain ⟨_, s39, rfl⟩ := hs 11 39 (by kernel_rfl) (by kernel_rfl)
              refine .inl ⟨wanted_free rfl, fun K hK => ?_⟩
              clear hs hb hx
              go_simp
              exact hK _ _ rfl (Ext.refl _)
            · intro fa fw hx hs hb
              obtain ⟨_, s40, rfl⟩ := hs 12 40 (by kernel_rfl) (by kernel_rfl)
              have c0 := hx.keeps _ _ C1.out
              refine .inl ⟨wanted_free rfl, fun K hK => ?_⟩
              clear hs hb hx
              go_simp
              exact hK _ _ rfl (Ext.refl _)
            · intro fa fw hx hs hb
              have s3 : fa.tmps[(3 : Nat)]? = some (.slice (some ⟨tb, tf, none⟩) gn tc) := (hb 3 (by kernel_rfl)).trans (by rfl)
              refine .inl ⟨wanted_free rfl, fun K hK => ?_⟩
              clear hs hb hx
              go_simp
              exact hK _ _ rfl (Ext.refl _)
            · intro fa fw hx hs hb
              have s1 : fa.tmps[(1 : Nat)]? = some (.pointer (some ⟨w.heap.size, 0, none⟩)) := (hb 1 (by kernel_rfl)).trans (by rfl)
              refine .inl ⟨wanted_free rfl, fun K hK => ?_⟩
              clear hs hb hx
              go_simp
              exact hK _ _ rfl (Ext.refl _)
            · intro fa fw hx hs hb
              obtain ⟨_, s43, rfl⟩ := hs 15 43 (by kernel_rfl) (by kernel_rfl)
              have c0 := hx.keeps _ _ D1.out
              refine .inl ⟨wanted_free rfl, fun K hK => ?_⟩
              clear hs hb hx
              go_simp
              exact hK _ _ rfl (Ext.refl _)
            · intro fa fw hx hs hb
              have s5 : fa.tmps[(5 : Nat)]? = some (.int .i64 k) := (hb 5 (by kernel_rfl)).trans (by rfl)
              refine .inl ⟨wanted_free rfl, fun K hK => ?_⟩
              clear hs hb hx
              go_simp
              exact hK _ _ rfl (Ext.refl _)
            · intro fa fw hx hs hb
              obtain ⟨_, s44, rfl⟩ := hs 16 44 (by kernel_rfl) (by kernel_rfl)
              obtain ⟨_, s45, rfl⟩ := hs 17 45 (by kernel_rfl) (by kernel_rfl)
              refine .inl ⟨wanted_free rfl, fun K hK => ?_⟩
              clear hs hb hx
              go_simp
              exact hK _ _ rfl (Ext.refl _)
            · intro fa fw hx hs hb
              obtain ⟨_, s46, rfl⟩ := hs 18 46 (by kernel_rfl) (by kernel_rfl)
              refine .inl ⟨wanted_free rfl, fun K hK => ?_⟩
              clear hs hb hx
              go_simp
              exact hK _ _ rfl (Ext.refl _)
            · intro fa fw hx hs hb
              obtain ⟨_, s47, rfl⟩ := hs 19 47 (by kernel_rfl) (by kernel_rfl)
              have c0 := hx.keeps _ _ C2.out
              refine .inl ⟨wanted_free rfl, fun K hK => ?_⟩
              clear hs hb hx
              go_simp
              exact hK _ _ rfl (Ext.refl _)
            · intro fa fw hx hs hb
              obtain ⟨_, s42, rfl⟩ := hs 14 42 (by kernel_rfl) (by kernel_rfl)
              obtain ⟨_, s48, rfl⟩ := hs 20 48 (by kernel_rfl) (by kernel_rfl)
              refine .inl ⟨wanted_free rfl, fun K hK => ?_⟩
              clear hs hb
              go_simp
              refine (PK.out fw A' m' c' g.args (HEQ.out.trans hx) (HSG.out.keep hx.keeps) HRA.out (by omega)).mono ?_
              rintro e w' ⟨r0, rfl, ho, xq⟩
              obtain ⟨Aq, cq, rfl, -, -, -⟩ := own_sl ho
              exact hK _ _ ⟨Aq, cq, rfl, own_base ho hx.size⟩ xq
            · intro fa fw hx hs hb
              obtain ⟨_, s35, rfl⟩ := hs 7 35 (by kernel_rfl) (by kernel_rfl)
              obtain ⟨_, s41, rfl⟩ := hs 13 41 (by kernel_rfl) (by kernel_rfl)
              obtain ⟨_, s49, A49, c49, rfl, q49⟩ := hs 21 49 (by kernel_rfl) (by kernel_rfl)
              refine .inl ⟨wanted_free rfl, fun K hK => ?_⟩
              clear hs hb
              go_simp
              exact hK _ _ ⟨A49, c49, rfl, q49⟩ (Ext.refl _)
            · intro fa fw hx hs hb
              obtain ⟨_, s50, A50, c50, rfl, q50⟩ := hs 22 50 (by kernel_rfl) (by kernel_rfl)
              refine .inl ⟨wanted_free rfl, fun K hK => ?_⟩
              clear hs hb
              go_simp
              exact hK _ _ ⟨fw.heap.size, A50, c50, rfl, Box.new fw _ _, own_ext q50 ((Ext.refl fw).alloc _)⟩ ((Ext.refl _).alloc _)
          case rest =>
            intro w5 hxw5
            rintro _ rfl
            rintro _ rfl
            rintro _ rfl
            rintro _ rfl
            rintro _ rfl
            rintro _ rfl
            rintro _ rfl
            rintro _ rfl
            rintro _ rfl
            rintro _ rfl
            rintro _ rfl
            rintro _ rfl
            rintro _ rfl
            rintro _ rfl
            rintro _ rfl
            rintro _ rfl
            rintro _ rfl
            rintro _ rfl
            rintro _ rfl
            rintro _ rfl
            rintro _ rfl
            rintro _ ⟨A49, c49, rfl, q49⟩
            rintro _ ⟨A50, c50, rfl, q50⟩
            rintro _ ⟨b51, A51, c51, rfl, k51, q51⟩
            simp only [putAll, List.take, Act.put, List.setIfInBounds_toArray, List.set_cons_zero, List.set_cons_succ]
            obtain ⟨inf, hti, htz, hts1, hts2⟩ := info_parts tab_gate
            have hog5 := HOGQ.out.ext hxw5
            have hbx5 := HBXQ.out.ext hxw5
            refine wpAny_ready (rs := [24]) (by kernel_rfl) (by simp) (AllReady.cons rfl (fun KK hKK => ?_) AllReady.nil)
            refine step_append_lies _ rfl (.tmp 29) (.tmp 51) 22 rfl w1.heap.size 34 inf _ 3 40 Try.underlying22 hti htz hts1 hts2 rfl (by omega) (.slice A nk c) nk _ rfl (by have := hog5.row; rw [HLEN.out] at this; exact this) ⟨b51, 0, none⟩ 1 1 [I g.kind, I g.num, .slice A51 m' c51] rfl rfl (fun j u hu => by rw [add_zero, k51.cell]; exact hu) (by simp [Value.oneCell']) (by omega) (by unfold maxLen; omega) (by omega) (HEQ.out.trans hxw5).size _ rfl ?_
            intro g6 cap6 w6 hown6 hgr6 _ _
            refine hKK _ _ ?_
            clear hKK KK
            have hog6 := HOGQ.out.push hxw5 HEQ.out.size (g := renG (toM N) g) (v := .slice A51 m' c51) (by show World.ownsRow _ _ _ _ _ (g.args.map _).length _; rw [List.length_map, HGLA.out]; exact q51) (by rw [HLEN.out]; exact hown6) hgr6
            have hrow : (Value.slice A nk c).ownBlock ≠ some b4 := hbx5.apart hog5.row (by decide)
            have hbx6 := hbx5.kept hgr6 hrow
            have hoo6 := (own_ext HOOQ.out hxw5).kept hgr6 (own_types (own_ext HOOQ.out hxw5) hog5.row (by decide))
            have hx6 : Ext w1 w6 := Below.grown (HEQ.out.trans hxw5) hgr6 (HEQ.out.trans hxw5).size (fun b hb => (hog5.row.lt b hb).1)
            have m1 := (hbx6.cell 1).trans rfl
            simp only [List.getElem?_cons_zero, List.getElem?_cons_succ] at m1
            have f6 := hbx6.free
            have HB6 := Lib.hid hbx6; have HG6 := Lib.hid hog6; have HO6 := Lib.hid hoo6; have HX6 := Lib.hid hx6
            clear hbx6 hog6 hoo6 hx6 hbx5 hog5 hrow hown6 hgr6 k51 q51 q49 q50
            refine wpAny_ready (rs := [25]) (by kernel_rfl) (by simp) (AllReady.cons rfl (fun KK hKK => ?_) AllReady.nil)
            go_simp
            refine hKK _ _ ?_
            clear hKK KK
            refine wpAny_ready (rs := [26]) (by kernel_rfl) (by simp) (AllReady.cons rfl (fun KK hKK => ?_) AllReady.nil)
            go_simp
            refine hKK _ _ ?_
            clear hKK KK m1 f6
            refine wpAny_done (by kernel_rfl) ?_ _
            have HB7 := Lib.hid (HB6.out.set 1 (.slice (some ⟨g6, 0, none⟩) (nk + 1) cap6)); have HG7 := Lib.hid (HG6.out.box HB6.out 1 (.slice (some ⟨g6, 0, none⟩) (nk + 1) cap6))
            have HO7 := Lib.hid (own_set HO6.out (HB6.out.apart HO6.out (by decide)) 1 (.slice (some ⟨g6, 0, none⟩) (nk + 1) cap6))
            have HX7 := Lib.hid (HX6.out.setCell (p := ⟨b4, 1, none⟩) H7.out (.slice (some ⟨g6, 0, none⟩) (nk + 1) cap6))
            clear HB6 HG6 HO6 HX6
            go_wp2
            go_roundw
            case rel => exact ⟨k + 1, some ⟨g6, 0, none⟩, cap6, vs ++ [.slice A51 m' c51], by omega, by go_num, HX7.out, by rw [HCN.out]; exact HB7.out, by rw [HCN.out, HKN.out]; exact HG7.out, HO7.out⟩
            case measure => simp [intOf]; omega
      · obtain rfl : gn = k := by omega
        have ht : N.gates.take gn = N.gates := List.take_of_length_le (by rw [HGL.out]; exact Nat.le_refl _)
        have ht2 : (isM N).take gn = isM N := List.take_of_length_le (by rw [HIL.out]; exact Nat.le_refl _)
        rw [ht, ht2] at hog
        rw [ht2] at hbx
        obtain ⟨dn, hdn⟩ : ∃ dn, dn = cnt (isM N) := ⟨_, rfl⟩
        rw [← hdn] at hbx hog
        have hdl : (dropN N).gates.length = dn := by rw [drop_len, hdn]
        obtain ⟨wg, hwg⟩ : ∃ q, q = wr := ⟨_, rfl⟩
        subst hwg
        have HEG := Lib.hid hext; have HBG := Lib.hid hbx; have HGG := Lib.hid hog; have HOG := Lib.hid hoo; have HDL := Lib.hid hdl
        have hB2 := hext.keeps _ _ B2.out
        clear hext hbx hog hoo hdl ht ht2 hdn
        go_wp2_with fail
        clear hB1 hB2
        go_loopw [6] (fun j wr => ∃ (k : Nat) (R : Option Addr) (rd : Nat), k ≤ rn ∧ j = .int .i64 k ∧ Ext w1 wr ∧ Box wr b4 26 [I i, .slice A dn c, .slice R k rd, .slice A15 on c15] ∧ OwnG wr w1.heap.size (.slice A dn c) (dropN N).gates vs ∧
          wr.ownsRow w1.heap.size 78 2 (.slice R k rd) k (storeCs ((dropN N).regs.take k)) ∧ wr.ownsRow w1.heap.size 3 1 (.slice A15 on c15) on ((N.outs.map (valI (toM N))).map I)) (fun j _ => rn - (intOf j).toNat)
        case atStart => exact ⟨0, none, 0, Nat.zero_le _, rfl, HEG.out, HBG.out, HGG.out, World.ownsRow_nil _ _ _ _, HOG.out⟩
        case round =>
          obtain ⟨k, R, rd, hk, rfl, hext, hbx, hog, hor, hoo⟩ := hrel
          have hB2 := hext.keeps _ _ B2.out
          by_cases hlt : k < rn
          · obtain ⟨b, off, r, rfl, c0, c1, -, hr⟩ := (N1.out.keep hext.keeps).regs.next hlt
            obtain ⟨hj0, hj1⟩ := HINX.out r.next (List.mem_map.2 ⟨r, List.mem_of_getElem? hr, rfl⟩)
            obtain ⟨j, hj⟩ : ∃ j : Nat, r.next = j := ⟨r.next.toNat, by omega⟩
            have hjn : j < gn := by omega
            obtain ⟨tb, tf, y, rfl, ht0, hty⟩ := TS.out.at_ hjn
            have hct := hext.keeps _ _ ht0
            have hyv : valI (toM N) r.next = y := by rw [hj]; exact valI_at hty
            have hdr : (dropN N).regs[k]? = some ⟨r.fst, y⟩ := by show (N.regs.map _)[k]? = _; rw [List.getElem?_map, hr, ← hyv]; rfl
            have hsn := storeCs_next hdr
            have c1' : wr.cell? ⟨b, off + k * 2 + 1, none⟩ = some (.int .i64 (j : Int)) := by rw [← hj]; exact c1
            have HEQ := Lib.hid hext; have HBXQ := Lib.hid hbx; have HOGQ := Lib.hid hog; have HORQ := Lib.hid hor; have HOOQ := Lib.hid hoo; have HSN := Lib.hid hsn
            have M2 : Hid (wr.cell? ⟨b4, 2, none⟩ = some (.slice R k rd)) := hbx.cell 2
            have C0 : Hid (wr.cell? ⟨b, off + k * 2, none⟩ = some (.bool r.fst)) := c0
            have C1 := Lib.hid c1'; have D2 := Lib.hid hB2; have TJ := Lib.hid hct
            clear hext hbx hog hor hoo hsn c0 c1 c1' hr hj0 hj1 hj hty ht0 hyv hdr hct
            go_wp2_with fail
            clear hB2
            refine wp_flow4 19 3 [isV (.pointer (some ⟨b4, 2, none⟩)), isV (.slice R k rd), isV (.pointer (some ⟨w.heap.size, 2, none⟩)), isV (.slice (some ⟨b, off, none⟩) rn rc), isV (.int .i64 k), isV (.pointer (some ⟨b, off + k * 2, none⟩)), isV (.pointer (some ⟨b, off + k * 2, none⟩)), isV (.bool r.fst), isV (.slice (some ⟨tb, tf, none⟩) gn tc), isV (.pointer (some ⟨w.heap.size, 2, none⟩)), isV (.slice (some ⟨b, off, none⟩) rn rc), isV (.int .i64 k), isV (.pointer (some ⟨b, off + k * 2, none⟩)), isV (.pointer (some ⟨b, off + k * 2 + 1, none⟩)), isV (.int .i64 j), isV (.pointer (some ⟨tb, tf + j, none⟩)), isV (I y), isV (.agg #[.bool r.fst, I y]), fun v w => ∃ b, v = .slice (some ⟨b, 0, none⟩) 1 1 ∧ Box w b 78 [.bool r.fst, I y]] (by kernel_rfl) rfl rfl (by kernel_rfl) (by kernel_rfl) ⟨isV_mono, isV_mono, isV_mono, isV_mono, isV_mono, isV_mono, isV_mono, isV_mono, isV_mono, isV_mono, isV_mono, isV_mono, isV_mono, isV_mono, isV_mono, isV_mono, isV_mono, isV_mono, fun v w w' ⟨b, e, h⟩ hx => ⟨b, e, h.ext hx⟩, trivial⟩ ?each ?rest
            case each =>
              refine .cons ?_ (.cons ?_ (.cons ?_ (.cons ?_ (.cons ?_ (.cons ?_ (.cons ?_ (.cons ?_ (.cons ?_ (.cons ?_ (.cons ?_ (.cons ?_ (.cons ?_ (.cons ?_ (.cons ?_ (.cons ?_ (.cons ?_ (.cons ?_ (.cons ?_ (.nil)))))))))))))))))))
              · intro fa fw hx hs hb
                have s4 : fa.tmps[(4 : Nat)]? = some (.pointer (some ⟨b4, 0, none⟩)) := (hb 4 (by kernel_rfl)).trans (by rfl)
                refine .inl ⟨wanted_free rfl, fun K hK => ?_⟩
                clear hs hb hx
                go_simp
                exact hK _ _ rfl (Ext.refl _)
              · intro fa fw hx hs hb
                obtain ⟨_, s61, rfl⟩ := hs 0 61 (by kernel_rfl) (by kernel_rfl)
                have c0 := hx.keeps _ _ M2.out
                refine .inl ⟨wanted_free rfl, fun K hK => ?_⟩
                clear hs hb hx
                go_simp
                exact hK _ _ rfl (Ext.refl _)
              · intro fa fw hx hs hb
                have s1 : fa.tmps[(1 : Nat)]? = some (.pointer (some ⟨w.heap.size, 0, none⟩)) := (hb 1 (by kernel_rfl)).trans (by rfl)
                refine .inl ⟨wanted_free rfl, fun K hK => ?_⟩
                clear hs hb hx
                go_simp
                exact hK _ _ rfl (Ext.refl _)
              · intro fa fw hx hs hb
                obtain ⟨_, s63, rfl⟩ := hs 2 63 (by kernel_rfl) (by kernel_rfl)
                have c0 := hx.keeps _ _ D2.out
                refine .inl ⟨wanted_free rfl, fun K hK => ?_⟩
                clear hs hb hx
                go_simp
                exact hK _ _ rfl (Ext.refl _)
              · intro fa fw hx hs hb
                have s6 : fa.tmps[(6 : Nat)]? = some (.int .i64 k) := (hb 6 (by kernel_rfl)).trans (by rfl)
                refine .inl ⟨wanted_free rfl, fun K hK => ?_⟩
                clear hs hb hx
                go_simp
                exact hK _ _ rfl (Ext.refl _)
              · intro fa fw hx hs hb
                obtain ⟨_, s64, rfl⟩ := hs 3 64 (by kernel_rfl) (by kernel_rfl)
                obtain ⟨_, s65, rfl⟩ := hs 4 65 (by kernel_rfl) (by kernel_rfl)
                refine .inl ⟨wanted_free rfl, fun K hK => ?_⟩
                clear hs hb hx
                go_simp
                exact hK _ _ rfl (Ext.refl _)
              · intro fa fw hx hs hb
                obtain ⟨_, s66, rfl⟩ := hs 5 66 (by kernel_rfl) (by kernel_rfl)
                refine .inl ⟨wanted_free rfl, fun K hK => ?_⟩
                clear hs hb hx
                go_simp
                exact hK _ _ rfl (Ext.refl _)
              · intro fa fw hx hs hb
                obtain ⟨_, s67, rfl⟩ := hs 6 67 (by kernel_rfl) (by kernel_rfl)
                have c0 := hx.keeps _ _ C0.out
                refine .inl ⟨wanted_free rfl, fun K hK => ?_⟩
                clear hs hb hx
                go_simp
                exact hK _ _ rfl (Ext.refl _)
              · intro fa fw hx hs hb
                have s3 : fa.tmps[(3 : Nat)]? = some (.slice (some ⟨tb, tf, none⟩) gn tc) := (hb 3 (by kernel_rfl)).trans (by rfl)
                refine .inl ⟨wanted_free rfl, fun K hK => ?_⟩
                clear hs hb hx
                go_simp
                exact hK _ _ rfl (Ext.refl _)
              · intro fa fw hx hs hb
                have s1 : fa.tmps[(1 : Nat)]? = some (.pointer (some ⟨w.heap.size, 0, none⟩)) := (hb 1 (by kernel_rfl)).trans (by rfl)
                refine .inl ⟨wanted_free rfl, fun K hK => ?_⟩
                clear hs hb hx
                go_simp
                exact hK _ _ rfl (Ext.refl _)
              · intro fa fw hx hs hb
                obtain ⟨_, s70, rfl⟩ := hs 9 70 (by kernel_rfl) (by kernel_rfl)
                have c0 := hx.keeps _ _ D2.out
                refine .inl ⟨wanted_free rfl, fun K hK => ?_⟩
                clear hs hb hx
                go_simp
                exact hK _ _ rfl (Ext.refl _)
              · intro fa fw hx hs hb
                have s6 : fa.tmps[(6 : Nat)]? = some (.int .i64 k) := (hb 6 (by kernel_rfl)).trans (by rfl)
                refine .inl ⟨wanted_free rfl, fun K hK => ?_⟩
                clear hs hb hx
                go_simp
                exact hK _ _ rfl (Ext.refl _)
              · intro fa fw hx hs hb
                obtain ⟨_, s71, rfl⟩ := hs 10 71 (by kernel_rfl) (by kernel_rfl)
                obtain ⟨_, s72, rfl⟩ := hs 11 72 (by kernel_rfl) (by kernel_rfl)
                refine .inl ⟨wanted_free rfl, fun K hK => ?_⟩
                clear hs hb hx
                go_simp
                exact hK _ _ rfl (Ext.refl _)
              · intro fa fw hx hs hb
                obtain ⟨_, s73, rfl⟩ := hs 12 73 (by kernel_rfl) (by kernel_rfl)
                refine .inl ⟨wanted_free rfl, fun K hK => ?_⟩
                clear hs hb hx
                go_simp
                exact hK _ _ rfl (Ext.refl _)
              · intro fa fw hx hs hb
                obtain ⟨_, s74, rfl⟩ := hs 13 74 (by kernel_rfl) (by kernel_rfl)
                have c0 := hx.keeps _ _ C1.out
                refine .inl ⟨wanted_free rfl, fun K hK => ?_⟩
                clear hs hb hx
                go_simp
                exact hK _ _ rfl (Ext.refl _)
              · intro fa fw hx hs hb
                obtain ⟨_, s69, rfl⟩ := hs 8 69 (by kernel_rfl) (by kernel_rfl)
                obtain ⟨_, s75, rfl⟩ := hs 14 75 (by kernel_rfl) (by kernel_rfl)
                refine .inl ⟨wanted_free rfl, fun K hK => ?_⟩
                clear hs hb hx
                go_simp
                exact hK _ _ rfl (Ext.refl _)
              · intro fa fw hx hs hb
                obtain ⟨_, s76, rfl⟩ := hs 15 76 (by kernel_rfl) (by kernel_rfl)
                have c0 := hx.keeps _ _ TJ.out
                refine .inl ⟨wanted_free rfl, fun K hK => ?_⟩
                clear hs hb hx
                go_simp
                exact hK _ _ rfl (Ext.refl _)
              · intro fa fw hx hs hb
                obtain ⟨_, s68, rfl⟩ := hs 7 68 (by kernel_rfl) (by kernel_rfl)
                obtain ⟨_, s77, rfl⟩ := hs 16 77 (by kernel_rfl) (by kernel_rfl)
                refine .inl ⟨wanted_free rfl, fun K hK => ?_⟩
                clear hs hb
                go_simp
                exact hK _ _ rfl (Ext.refl _)
              · intro fa fw hx hs hb
                obtain ⟨_, s78, rfl⟩ := hs 17 78 (by kernel_rfl) (by kernel_rfl)
                refine .inl ⟨wanted_free rfl, fun K hK => ?_⟩
                clear hs hb
                go_simp
                exact hK _ _ ⟨fw.heap.size, rfl, Box.new fw _ _⟩ ((Ext.refl _).alloc _)
            case rest =>
              intro w5 hxw5
              rintro _ rfl
              rintro _ rfl
              rintro _ rfl
              rintro _ rfl
              rintro _ rfl
              rintro _ rfl
              rintro _ rfl
              rintro _ rfl
              rintro _ rfl
              rintro _ rfl
              rintro _ rfl
              rintro _ rfl
              rintro _ rfl
              rintro _ rfl
              rintro _ rfl
              rintro _ rfl
              rintro _ rfl
              rintro _ rfl
              rintro _ ⟨b79, rfl, k79⟩
              simp only [putAll, List.take, Act.put, List.setIfInBounds_toArray, List.set_cons_zero, List.set_cons_succ]
              obtain ⟨inf, hti, htz, hts1, hts2⟩ := info_parts tab_store
              have hog5 := HOGQ.out.ext hxw5
              have hbx5 := HBXQ.out.ext hxw5
              have hor5 := own_ext HORQ.out hxw5
              refine wpAny_ready (rs := [19]) (by kernel_rfl) (by simp) (AllReady.cons rfl (fun KK hKK => ?_) AllReady.nil)
              refine step_append_lies _ rfl (.tmp 62) (.tmp 79) 23 rfl w1.heap.size 78 inf _ 2 16 Try.underlying23 hti htz hts1 hts2 rfl (by omega) (.slice R k rd) k _ rfl hor5 ⟨b79, 0, none⟩ 1 1 [.bool r.fst, I y] rfl rfl (fun j u hu => by rw [add_zero, k79.cell]; exact hu) (by simp [Value.oneCell']) (by omega) (by unfold maxLen; omega) (by omega) (HEQ.out.trans hxw5).size _ rfl ?_
              intro g6 cap6 w6 hown6 hgr6 _ _
              refine hKK _ _ ?_
              clear hKK KK
              have hog6 := hog5.kept_of hor5 hgr6
              have hrow : (Value.slice R k rd).ownBlock ≠ some b4 := hbx5.apart hor5 (by decide)
              have hbx6 := hbx5.kept hgr6 hrow
              have hoo6 := (own_ext HOOQ.out hxw5).kept hgr6 (own_types (own_ext HOOQ.out hxw5) hor5 (by decide))
              have hx6 : Ext w1 w6 := Below.grown (HEQ.out.trans hxw5) hgr6 (HEQ.out.trans hxw5).size (fun b hb => (hor5.lt b hb).1)
              have m2 := (hbx6.cell 2).trans rfl
              simp only [List.getElem?_cons_zero, List.getElem?_cons_succ] at m2
              have f6 := hbx6.free
              have HB6 := Lib.hid hbx6; have HG6 := Lib.hid hog6; have HR6 := Lib.hid hown6; have HO6 := Lib.hid hoo6; have HX6 := Lib.hid hx6
              clear hbx6 hog6 hoo6 hx6 hbx5 hog5 hor5 hrow hown6 hgr6 k79
              refine wpAny_ready (rs := [20]) (by kernel_rfl) (by simp) (AllReady.cons rfl (fun KK hKK => ?_) AllReady.nil)
              go_simp
              refine hKK _ _ ?_
              clear hKK KK
              refine wpAny_ready (rs := [21]) (by kernel_rfl) (by simp) (AllReady.cons rfl (fun KK hKK => ?_) AllReady.nil)
              go_simp
              refine hKK _ _ ?_
              clear hKK KK m2 f6
              refine wpAny_done (by kernel_rfl) ?_ _
              have HB7 := Lib.hid (HB6.out.set 2 (.slice (some ⟨g6, 0, none⟩) (k + 1) cap6)); have HG7 := Lib.hid (HG6.out.box HB6.out 2 (.slice (some ⟨g6, 0, none⟩) (k + 1) cap6))
              have HR7 := Lib.hid (own_set HR6.out (HB6.out.apart HR6.out (by decide)) 2 (.slice (some ⟨g6, 0, none⟩) (k + 1) cap6)); have HO7 := Lib.hid (own_set HO6.out (HB6.out.apart HO6.out (by decide)) 2 (.slice (some ⟨g6, 0, none⟩) (k + 1) cap6))
              have HX7 := Lib.hid (HX6.out.setCell (p := ⟨b4, 2, none⟩) H7.out (.slice (some ⟨g6, 0, none⟩) (k + 1) cap6))
              clear HB6 HG6 HR6 HO6 HX6
              go_wp2
              go_roundw
              case rel => exact ⟨k + 1, some ⟨g6, 0, none⟩, cap6, by omega, by go_num, HX7.out, HB7.out, HG7.out, by rw [HSN.out]; exact HR7.out, HO7.out⟩
              case measure => simp [intOf]; omega
          · obtain rfl : rn = k := by omega
            have ht : (dropN N).regs.take rn = (dropN N).regs := List.take_of_length_le (by show (N.regs.map _).length ≤ rn; rw [List.length_map, HRL.out]; exact Nat.le_refl _)
            rw [ht] at hor
            have hz := (HZ.out.ext X1.out).ext hext
            have m0 := (hbx.cell 0).trans rfl; have m1 := (hbx.cell 1).trans rfl; have m2 := (hbx.cell 2).trans rfl; have m3 := (hbx.cell 3).trans rfl
            have n0 := (hz.cell 0).trans rfl; have n1 := (hz.cell 1).trans rfl; have n2 := (hz.cell 2).trans rfl; have n3 := (hz.cell 3).trans rfl
            simp only [List.getElem?_cons_zero, List.getElem?_cons_succ] at m0 m1 m2 m3 n0 n1 n2 n3
            have fz := hz.free
            have hne : b4 ≠ w.heap.size + 1 := by have := H7.out; have := HZ.out.lt; have := X1.out.size; omega
            obtain ⟨w9, hw9⟩ : ∃ w9, w9 = (((wr.setCell ⟨w.heap.size + 1, 0, none⟩ (I i)).setCell ⟨w.heap.size + 1, 1, none⟩ (.slice A dn c)).setCell ⟨w.heap.size + 1, 2, none⟩ (.slice R rn rd)).setCell ⟨w.heap.size + 1, 3, none⟩ (.slice A15 on c15) := ⟨_, rfl⟩
            have hk9 : Box w9 (w.heap.size + 1) 26 [I i, .slice A dn c, .slice R rn rd, .slice A15 on c15] := by rw [hw9]; exact (((hz.set 0 (I i)).set 1 (.slice A dn c)).set 2 (.slice R rn rd)).set 3 (.slice A15 on c15)
            have ar := hz.apart hor (by decide); have ao := hz.apart hoo (by decide)
            have hn9 : NetO w9 w1.heap.size i A dn c R rn rd A15 on c15 (dropN N) vs := by
              refine ⟨HIN.out, HDL.out, ?_, ?_, ?_⟩
              · rw [hw9]
                exact (((hog.box hz 0 (I i)).box (hz.set 0 (I i)) 1 (.slice A dn c)).box ((hz.set 0 (I i)).set 1 (.slice A dn c)) 2 (.slice R rn rd)).box (((hz.set 0 (I i)).set 1 (.slice A dn c)).set 2 (.slice R rn rd)) 3 (.slice A15 on c15)
              · rw [hw9]; exact own_set (own_set (own_set (own_set hor ar _ _) ar _ _) ar _ _) ar _ _
              · rw [hw9]; exact own_set (own_set (own_set (own_set hoo ao _ _) ao _ _) ao _ _) ao _ _
            have hx9 : Ext w w9 := by
              have h0 : Ext w wr := (HX.out.trans X1.out).trans hext
              rw [hw9]; exact (((h0.setCell (p := ⟨w.heap.size + 1, 0, none⟩) (Nat.le_succ _) _).setCell (p := ⟨w.heap.size + 1, 1, none⟩) (Nat.le_succ _) _).setCell (p := ⟨w.heap.size + 1, 2, none⟩) (Nat.le_succ _) _).setCell (p := ⟨w.heap.size + 1, 3, none⟩) (Nat.le_succ _) _
            have HNO := Lib.hid hn9; have HX9 := Lib.hid hx9; have HK9 := Lib.hid hk9; have HW9 := Lib.hid hw9
            clear hog hbx hor hoo hz ht hw9 hk9 ar ao hx9 hn9 hext
            go_wp2
            rw [← HW9.out]
            refine bodyPost_ret (v := netV i A dn c R rn rd A15 on c15) ?_ rfl ⟨i, A, dn, c, R, rn, rd, A15, on, c15, vs, rfl, HNO.out.base_le (HX.out.trans X1.out).size, HX9.out⟩
            have q0 := (HK9.out.cell 0).trans rfl; have q1 := (HK9.out.cell 1).trans rfl; have q2 := (HK9.out.cell 2).trans rfl; have q3 := (HK9.out.cell 3).trans rfl
            simp only [List.getElem?_cons_zero, List.getElem?_cons_succ] at q0 q1 q2 q3
            clear HNO HX9 HK9 HW9 m0 m1 m2 m3 n0 n1 n2 n3 fz hB2
            simp [results, Try.results63, go_sem, q0, q1, q2, q3]
end
end Go.Proofs.Ytjagbnaacfhokaa
/- slices.Grow of nothing, slices.Concat. -/
namespace Go.Proofs.Ytjagbnaacfhokaa
set_option linter.unusedVariables false
set_option linter.unusedSimpArgs false
open Go.RowKit

theorem wpList_appendZ {P : Program} {w : World} {ops : Array Oper} {rest : List Oper} {o : Oper} {a : Act} {Q : Exit → Act → World → Prop} (hgd : o.guard = none) (s x : Operand) (t tn e : TypeId)
    (ho : o.op = .call { callee := .builtin .append, args := #[s, x], argTypes := #[t, tn] })
    {z : Value} {bytes : Nat} (tab : (P.info? e).map (fun i => (i.zero, i.size, i.bytes)) = some (some z, 1, bytes)) (ht : P.underlying t = some (.slice e)) (htn : P.underlying tn = some (.int .i64)) (hzs : z.cells.size = 1)
    (hs : a.eval s = .slice none 0 0) (k : Nat) (hx : a.eval x = I k) (h0 : 0 < k) (hk : k ≤ maxLen) (hb : k * bytes ≤ 140737488355328)
    (h : ∀ c w', w'.ownsRow w.heap.size e 1 (.slice (some ⟨w.heap.size, 0, none⟩) 0 c) 0 [] → k ≤ c → c ≤ maxLen → Ext w w' → wpList P ops Q rest (a.put o.dst (.slice (some ⟨w.heap.size, 0, none⟩) k c)) w') : wpList P ops Q (o :: rest) a w := by
  obtain ⟨i, hi, hz, hs1, hs2⟩ := info_parts tab
  have hk9 : k ≤ 9223372036854775807 := by unfold maxLen at hk; omega
  have hr := Go.Lib.run_append_grow_zeros (P := P) w t tn o.type e i z .i64 .i64 ht htn hi hz none 0 0 [] (by simp [Builtin.firstCells, loadCells, loadCellsFrom]) k h0 (by omega) (by omega) (by omega) (by rw [hs2]; omega) (by rw [hs2, Nat.zero_add]; exact growslice_fits h0 hb)
  simp only [Nat.zero_add] at hr
  have hge := grownCap_ge w k 0 e
  have hcm := grownCap_le_maxLen w k 0 e hk
  refine wpList_plain hgd fun K hK => ?_
  unfold Oper.wp execOp
  simp only [ho, resolve, invoke, builtin, Sem.run_bind, Sem.run_pure, Result.andThen_ok, List.map_toArray, List.map_cons, List.map_nil, hs, hx, hr]
  refine hK _ _ (h _ _ ⟨rfl, .inr ⟨w.heap.size, _, _, rfl, Nat.le_refl _, heap_alloc_new w.drew _, Nat.zero_le _, hcm, ?_, by simp⟩⟩ hge hcm (((Ext.refl w).drew).alloc _))
  simp only [Array.size_append, List.size_toArray, size_zeroCells, hzs, List.length_nil]
  omega
set_option maxHeartbeats 1000000 in
theorem grow_any (n : Nat) (w : World) (hn : n ≤ 1000) :
    Calls Try.prog 130 #[.slice none 0 0, I n] w fun e w' => ∃ v, e = .returned v ∧ w'.ownsRow w.heap.size 3 1 v 0 [] ∧ Ext w w' := by
  by_cases h0 : n = 0
  · subst h0
    go_enter Try.func130, Try.ntmps130
    go_wp2
    go_ret
    exact ⟨_, rfl, World.ownsRow_nil _ _ _ _, Ext.refl _⟩
  · have hp : 0 < n := by omega
    clear h0
    go_enter Try.func130, Try.ntmps130
    go_upto_region 5 with fail
    go_wp2_with (refine wpList_appendZ rfl (.tmp 20) (.tmp 21) 24 3 3 rfl tab_int' Try.underlying24 Try.underlying3 rfl rfl n rfl hp (by unfold maxLen; omega) (by omega) ?_; intro cap w2 hown2 hc1 hc2 hx2)
    go_ret
    exact ⟨_, rfl, hown2, hx2⟩
theorem flatten_take_le (rows : List (List Int)) (k : Nat) : (rows.take k).flatten.length ≤ rows.flatten.length := by
  have h : rows.flatten = (rows.take k).flatten ++ (rows.drop k).flatten := by rw [← List.flatten_append, List.take_append_drop]
  rw [h, List.length_append]; omega
theorem flatten_next {rows : List (List Int)} {k : Nat} {r : List Int} (h : rows[k]? = some r) : (rows.take (k + 1)).flatten = (rows.take k).flatten ++ r := by
  rw [List.take_add_one, h]; simp
def flen (rows : List (List Int)) (k : Nat) : Nat := (rows.take k).flatten.length
set_option maxRecDepth 100000 in
set_option maxHeartbeats 2000000 in
theorem concat_any (A : Option Addr) (n c : Nat) (rows : List (List Int)) (w : World) (h : SlRows w A n rows) (hb : rows.flatten.length ≤ 1000) (hn : n ≤ 1000) :
    Calls Try.prog 108 #[.slice A n c] w fun e w' => ∃ v, e = .returned v ∧ w'.ownsRow w.heap.size 3 1 v rows.flatten.length (rows.flatten.map I) ∧ Ext w w' := by
  have H := Lib.hid h; have HB := Lib.hid hb; clear h hb
  go_enter Try.func108, Try.ntmps108
  go_wp2
  go_loop [3, 11] (fun s j => ∃ (k : Nat), k ≤ n ∧ j = .int .i64 k ∧ s = .int .i64 (flen rows k : Nat)) (fun _ j => n - (intOf j).toNat)
  case atStart => exact ⟨0, Nat.zero_le _, rfl, rfl⟩
  case round =>
    obtain ⟨k, hk, rfl, rfl⟩ := hrel
    by_cases hlt : k < n
    · obtain ⟨r, hr⟩ : ∃ r, rows[k]? = some r := ⟨_, List.getElem?_eq_getElem (by rw [H.out.1]; exact hlt)⟩
      obtain ⟨b, off, A', c', rfl, hc, -, -, -⟩ := H.out.2 k r hr
      have h1 := flatten_take_le rows (k + 1)
      rw [flatten_next hr, List.length_append] at h1
      have h2 := HB.out
      have hnx : flen rows (k + 1) = flen rows k + r.length := by unfold flen; rw [flatten_next hr, List.length_append]
      have hw : IntKind.i64.wrap ((flen rows k : Int) + (r.length : Int)) = (flen rows k : Int) + (r.length : Int) := IntWalk.i64_in _ (by unfold flen; omega)
      have HN := Lib.hid hnx
      have hS : (0 : Int) ≤ (flen rows k : Int) := Int.natCast_nonneg _
      clear hr h1 h2 hnx
      generalize flen rows k = S at *
      go_wp2
      go_round
      case rel => exact ⟨k + 1, by omega, by go_num, by rw [HN.out, Int.natCast_add]⟩
      case measure => simp [intOf]; omega
    · obtain rfl : n = k := by omega
      have ht : rows.take n = rows := List.take_of_length_le (by rw [H.out.1]; exact Nat.le_refl _)
      have hS : flen rows n ≤ 1000 := by unfold flen; rw [ht]; exact HB.out
      have HT := Lib.hid ht
      clear ht
      generalize hSS : flen rows n = S at *
      clear hSS
      go_wp2_with fail
      refine (grow_any S w hS).mono ?_; rintro e w1 ⟨v, rfl, hown, x1⟩
      have HO := Lib.hid hown; have X1 := Lib.hid x1; clear hown x1
      go_wp2_with fail
      go_loopw [6, 27] (fun s j wr => ∃ (k : Nat), k ≤ n ∧ j = .int .i64 k ∧ Ext w wr ∧ wr.ownsRow w.heap.size 3 1 s (rows.take k).flatten.length ((rows.take k).flatten.map I)) (fun _ j _ => n - (intOf j).toNat)
      case atStart => exact ⟨0, Nat.zero_le _, rfl, X1.out, HO.out⟩
      case round =>
        obtain ⟨k, hk, rfl, hext, hown⟩ := hrel
        by_cases hlt : k < n
        · obtain ⟨r, hr⟩ : ∃ r, rows[k]? = some r := ⟨_, List.getElem?_eq_getElem (by rw [H.out.1]; exact hlt)⟩
          obtain ⟨b, off, A', c', rfl, hc0, hs, -, -⟩ := H.out.2 k r hr
          have hc := hext.keeps _ _ hc0
          have h1 := flatten_take_le rows (k + 1)
          have hnx := flatten_next hr
          rw [hnx, List.length_append] at h1
          have HN := Lib.hid hnx; have HS := Lib.hid (hs.keep hext.keeps); have HO2 := Lib.hid hown; have H1 := Lib.hid h1
          clear hr hnx hc0 hs hown h1
          go_wp2_with (at_builtin; refine wpList_appendBig rfl (.tmp 31) (.tmp 32) 24 3 rfl tab_int' Try.underlying24 rfl (by omega) w hext _ _ _ rfl HO2.out A' r.length c' (r.map I) rfl HS.out (ints_one _) (by have := H1.out; have := HB.out; omega) (by have := H1.out; have := HB.out; omega) ?_; intro v2 w2 hown2 hx2 hg2 hb2)
          go_roundw
          case rel => exact ⟨k + 1, by omega, by go_num, hx2, by rw [HN.out, List.length_append, List.map_append]; exact hown2⟩
          case measure => simp [intOf]; omega
        · obtain rfl : n = k := by omega
          have ht : rows.take n = rows := List.take_of_length_le (by rw [H.out.1]; exact Nat.le_refl _)
          rw [ht] at hown
          have HO2 := Lib.hid hown
          clear hown ht
          go_wp2
          go_ret
          exact ⟨_, rfl, HO2.out, hext⟩
end Go.Proofs.Ytjagbnaacfhokaa
/- Drop, by the program. -/
namespace Go.Proofs.Ytjagbnaacfhokaa
set_option linter.unusedVariables false
set_option linter.unusedSimpArgs false
open Go.RowKit

theorem rows_two {w : World} {b : Nat} {A B : Option Addr} {n m c d : Nat} {xs ys : List Int} (hb : Box w b 24 [.slice A n c, .slice B m d]) (hA : Sl w A n (xs.map I)) (hB : Sl w B m (ys.map I)) (h1 : n ≤ c ∧ c ≤ maxLen) (h2 : m ≤ d ∧ d ≤ maxLen) : SlRows w (some ⟨b, 0, none⟩) 2 [xs, ys] := by
  have e1 := hA.len; have e2 := hB.len
  subst e1; subst e2
  refine ⟨rfl, fun k r hr => ?_⟩
  match k, hr with
  | 0, hr => simp at hr; subst hr; exact ⟨b, 0, A, c, rfl, hb.cell 0, hA, h1.1, h1.2⟩
  | 1, hr => simp at hr; subst hr; exact ⟨b, 0, B, d, rfl, hb.cell 1, hB, h2.1, h2.2⟩
  | k + 2, hr => simp at hr
section
variable (i : Int) (GA : Option Addr) (gn gc : Nat) (RA : Option Addr) (rn rc : Nat) (OA : Option Addr) (on oc : Nat) (N : NetM) (w : World)
set_option maxRecDepth 100000 in
set_option maxHeartbeats 16000000 in
theorem drop_any (h : NetC w i GA gn gc RA rn rc OA on oc N) :
    Calls Try.prog 60 #[netV i GA gn gc RA rn rc OA on oc] w fun e w' => NetRes w w' w.heap.size e (checkN N) (dropR N) := by
  have hgl : N.gates.length = gn := h.gates.1
  have hrl : N.regs.length = rn := h.regs.1
  have hol : N.outs.length = on := h.outs.len
  have hin := h.ins
  have hocm := h.ol
  obtain ⟨W0, hW0⟩ : ∃ W, W = w.alloc (.cells #[I i, .slice GA gn gc, .slice RA rn rc, .slice OA on oc] 26) := ⟨_, rfl⟩
  have hx0 : Ext w W0 := by rw [hW0]; exact (Ext.refl _).alloc _
  obtain ⟨W, hW⟩ : ∃ W, W = W0.alloc (.cells #[I 0, .slice none 0 0, .slice none 0 0, .slice none 0 0] 26) := ⟨_, rfl⟩
  have hx1 : Ext W0 W := by rw [hW]; exact (Ext.refl _).alloc _
  have hs0 : W0.heap.size = w.heap.size + 1 := by rw [hW0]; simp
  have hbox : NetBox W w.heap.size i GA gn gc RA rn rc OA on oc := by
    have : NetBox W0 w.heap.size i GA gn gc RA rn rc OA on oc := by rw [hW0]; exact NetBox.new w i GA gn gc RA rn rc OA on oc _
    exact this.keep hx1.keeps
  have hz : Box W (w.heap.size + 1) 26 [I 0, .slice none 0 0, .slice none 0 0, .slice none 0 0] := by rw [← hs0, hW]; exact Box.new W0 _ _
  have HN := Lib.hid (h.keep (hx0.trans hx1).keeps); have HBox := Lib.hid hbox; have HX := Lib.hid (hx0.trans hx1); have HZ := Lib.hid hz
  have HW : Hid (W = (w.alloc (.cells #[I i, .slice GA gn gc, .slice RA rn rc, .slice OA on oc] 26)).alloc (.cells #[I 0, .slice none 0 0, .slice none 0 0, .slice none 0 0] 26)) := by unfold Hid; rw [hW, hW0]
  clear h hW0 hx0 hW hx1 hs0 hbox hz
  by_cases hc : checkN N = 0
  · have ok := checkN_ok hc
    have hDR : dropR N = dropN N := by unfold dropR; rw [if_pos hc]
    rw [hDR, hc]
    have hr20 : rn ≤ 20 := by have := ok.rl; omega
    have ho3 : on ≤ 3 := by have := ok.ol; omega
    have hg200 : gn ≤ 200 := by have := ok.gl; omega
    have hlk := keepGs_take_len id (gs := N.gates) (l := isM N) (is_len N).symm
    have hil : (isM N).length = gn := by rw [is_len, hgl]
    have HOK := Lib.hid ok; have HC := Lib.hid hc; have HGL := Lib.hid hgl; have HIN := Lib.hid hin; have HLK := Lib.hid hlk; have HIL := Lib.hid hil; have HRL := Lib.hid hrl; have HOL := Lib.hid hol; have HOCM := Lib.hid hocm
    clear ok hc hgl hrl hol hin hlk hil hDR hocm
    go_enter Try.func60, Try.ntmps60
    go_wp2_with fail
    rw [← HW.out]
    refine (netCheck_any i GA gn gc RA rn rc OA on oc N W HN.out).mono ?_; rintro e w1 ⟨rfl, x1⟩; rw [HC.out]
    have hbx := HBox.out.keep x1.keeps
    have B0 : Hid (w1.cell? ⟨w.heap.size, 0, none⟩ = some (I i)) := hbx.1
    have B1 : Hid (w1.cell? ⟨w.heap.size, 1, none⟩ = some (.slice GA gn gc)) := hbx.2.1
    have B2 : Hid (w1.cell? ⟨w.heap.size, 2, none⟩ = some (.slice RA rn rc)) := hbx.2.2.1
    have B3 : Hid (w1.cell? ⟨w.heap.size, 3, none⟩ = some (.slice OA on oc)) := hbx.2.2.2
    have NN := Lib.hid (HN.out.keep x1.keeps)
    have X1 := Lib.hid x1
    clear x1 hbx
    go_wp2_with fail
    refine wp_flow3 9 0 [isV (.agg #[I i, .slice GA gn gc, .slice RA rn rc, .slice OA on oc]), isV (.pointer (some ⟨w.heap.size, 3, none⟩)), isV (.slice OA on oc), isV (.agg #[I i, .slice GA gn gc, .slice RA rn rc, .slice OA on oc]), fun v w => ∃ A c, v = .slice A rn c ∧ w.ownsRow w1.heap.size 3 1 (.slice A rn c) rn ((nextsM N).map I), fun v w => ∃ b A c, v = .slice (some ⟨b, 0, none⟩) 2 2 ∧ Box w b 24 [.slice OA on oc, .slice A rn c] ∧ w.ownsRow w1.heap.size 3 1 (.slice A rn c) rn ((nextsM N).map I), fun v w => ∃ A c, v = .slice A (on + rn) c ∧ w.ownsRow w1.heap.size 3 1 (.slice A (on + rn) c) (on + rn) ((N.outs ++ nextsM N).map I), fun v w => ∃ A c, v = .slice A gn c ∧ w.ownsRow w1.heap.size 4 1 (.slice A gn c) gn ((isM N).map Bv), fun v w => ∃ A c, v = .slice A gn c ∧ w.ownsRow w1.heap.size 4 1 (.slice A gn c) gn ((isM N).map Bv)] (by kernel_rfl) rfl rfl (by kernel_rfl) (by kernel_rfl) ⟨isV_mono, isV_mono, isV_mono, isV_mono, fun v w w' ⟨A, c, e, h⟩ hx => ⟨A, c, e, own_ext h hx⟩, fun v w w' ⟨b, A, c, e, h, k⟩ hx => ⟨b, A, c, e, h.ext hx, own_ext k hx⟩, fun v w w' ⟨A, c, e, h⟩ hx => ⟨A, c, e, own_ext h hx⟩, fun v w w' ⟨A, c, e, h⟩ hx => ⟨A, c, e, own_ext h hx⟩, fun v w w' ⟨A, c, e, h⟩ hx => ⟨A, c, e, own_ext h hx⟩, trivial⟩ ?each ?rest
    case each =>
      refine .cons ?_ (.cons ?_ (.cons ?_ (.cons ?_ (.cons ?_ (.cons ?_ (.cons ?_ (.cons ?_ (.cons ?_ (.nil)))))))))
      · intro fa fw hx hs hb
        have s1 : fa.tmps[(1 : Nat)]? = some (.pointer (some ⟨w.heap.size, 0, none⟩)) := (hb 1 (by kernel_rfl)).trans (by rfl)
        have c0 := hx.keeps _ _ B0.out
        have c1 := hx.keeps _ _ B1.out
        have c2 := hx.keeps _ _ B2.out
        have c3 := hx.keeps _ _ B3.out
        refine .inl ⟨wanted_free rfl, fun K hK => ?_⟩
        clear hs hb hx
        go_simp
        exact hK _ _ rfl (Ext.refl _)
      · intro fa fw hx hs hb
        have s1 : fa.tmps[(1 : Nat)]? = some (.pointer (some ⟨w.heap.size, 0, none⟩)) := (hb 1 (by kernel_rfl)).trans (by rfl)
        refine .inl ⟨wanted_free rfl, fun K hK => ?_⟩
        clear hs hb hx
        go_simp
        exact hK _ _ rfl (Ext.refl _)
      · intro fa fw hx hs hb
        obtain ⟨_, s23, rfl⟩ := hs 1 23 (by kernel_rfl) (by kernel_rfl)
        have c0 := hx.keeps _ _ B3.out
        refine .inl ⟨wanted_free rfl, fun K hK => ?_⟩
        clear hs hb hx
        go_simp
        exact hK _ _ rfl (Ext.refl _)
      · intro fa fw hx hs hb
        have s1 : fa.tmps[(1 : Nat)]? = some (.pointer (some ⟨w.heap.size, 0, none⟩)) := (hb 1 (by kernel_rfl)).trans (by rfl)
        have c0 := hx.keeps _ _ B0.out
        have c1 := hx.keeps _ _ B1.out
        have c2 := hx.keeps _ _ B2.out
        have c3 := hx.keeps _ _ B3.out
        refine .inl ⟨wanted_free rfl, fun K hK => ?_⟩
        clear hs hb hx
        go_simp
        exact hK _ _ rfl (Ext.refl _)
      · intro fa fw hx hs hb
        obtain ⟨_, s25, rfl⟩ := hs 3 25 (by kernel_rfl) (by kernel_rfl)
        refine .inl ⟨wanted_free rfl, fun K hK => ?_⟩
        clear hs hb
        go_simp
        refine (nexts_any i GA gn gc RA rn rc OA on oc N fw (NN.out.keep hx.keeps) hr20).mono ?_
        rintro e w' ⟨r0, rfl, ho, xq⟩
        obtain ⟨Aq, cq, rfl, -, -, -⟩ := own_sl ho
        exact hK _ _ ⟨Aq, cq, rfl, own_base ho hx.size⟩ xq
      · intro fa fw hx hs hb
        obtain ⟨_, s24, rfl⟩ := hs 2 24 (by kernel_rfl) (by kernel_rfl)
        obtain ⟨_, s26, A26, c26, rfl, q26⟩ := hs 4 26 (by kernel_rfl) (by kernel_rfl)
        refine .inl ⟨wanted_free rfl, fun K hK => ?_⟩
        clear hs hb
        go_simp
        exact hK _ _ ⟨fw.heap.size, A26, c26, rfl, Box.new fw _ _, own_ext q26 ((Ext.refl fw).alloc _)⟩ ((Ext.refl _).alloc _)
      · intro fa fw hx hs hb
        obtain ⟨_, s27, b27, A27, c27, rfl, k27, q27⟩ := hs 5 27 (by kernel_rfl) (by kernel_rfl)
        refine .inl ⟨wanted_free rfl, fun K hK => ?_⟩
        clear hs hb
        obtain ⟨Ar, cr, er, h1, h2, hsr⟩ := own_sl q27
        injection er with er _ ec
        subst er; subst ec
        have hrows := rows_two k27 (NN.out.outs.keep hx.keeps) hsr HOCM.out ⟨h1, h2⟩
        have hfl : [N.outs, nextsM N].flatten.length = on + rn := by simp [HOL.out, nextsM, HRL.out]
        have hfe : [N.outs, nextsM N].flatten = N.outs ++ nextsM N := by simp
        clear h1 h2
        go_simp
        refine (concat_any _ 2 2 _ fw hrows (by rw [hfl]; omega) (by omega)).mono ?_
        rintro e w' ⟨r0, rfl, ho, xq⟩
        rw [hfl, hfe] at ho
        obtain ⟨Aq, cq, rfl, -, -, -⟩ := own_sl ho
        exact hK _ _ ⟨Aq, cq, rfl, own_base ho hx.size⟩ xq
      · intro fa fw hx hs hb
        obtain ⟨_, s22, rfl⟩ := hs 0 22 (by kernel_rfl) (by kernel_rfl)
        obtain ⟨_, s28, A28, c28, rfl, q28⟩ := hs 6 28 (by kernel_rfl) (by kernel_rfl)
        refine .inl ⟨wanted_free rfl, fun K hK => ?_⟩
        clear hs hb
        obtain ⟨Ar, cr, er, h1, h2, hsr⟩ := own_sl q28
        injection er with er _ ec
        subst er; subst ec
        clear h1 h2
        go_simp
        refine (needed_any i GA gn gc RA rn rc OA on oc N _ (on + rn) _ (N.outs ++ nextsM N) fw (NN.out.keep hx.keeps) hsr HOK.out (wanted_in HOK.out) (by omega)).mono ?_
        rintro e w' ⟨r0, rfl, ho, xq⟩
        obtain ⟨Aq, cq, rfl, -, -, -⟩ := own_sl ho
        exact hK _ _ ⟨Aq, cq, rfl, own_base ho hx.size⟩ xq
      · intro fa fw hx hs hb
        obtain ⟨_, s29, A29, c29, rfl, q29⟩ := hs 7 29 (by kernel_rfl) (by kernel_rfl)
        refine .inl ⟨wanted_free rfl, fun K hK => ?_⟩
        clear hs hb
        go_simp
        exact hK _ _ ⟨A29, c29, rfl, q29⟩ (Ext.refl _)
    case rest =>
      intro w2 hxw2
      rintro _ rfl
      rintro _ rfl
      rintro _ rfl
      rintro _ rfl
      rintro _ ⟨A26, c26, rfl, q26⟩
      rintro _ ⟨b27, A27, c27, rfl, k27, q27⟩
      rintro _ ⟨A28, c28, rfl, q28⟩
      rintro _ ⟨A29, c29, rfl, q29⟩
      rintro _ ⟨A5, c5, rfl, q5⟩
      simp only [putAll, List.take, Act.put, List.setIfInBounds_toArray, List.set_cons_zero, List.set_cons_succ]
      refine wpAny_done (by kernel_rfl) ?_ _
      obtain ⟨IA, ic, ei, -, -, his⟩ := own_sl q5
      injection ei with ei _ ec; subst ei; subst ec
      obtain ⟨wM, hwM⟩ : ∃ wM, wM = w2.alloc (.map #[] 0) := ⟨_, rfl⟩
      have hxM : Ext w2 wM := by rw [hwM]; exact (Ext.refl _).alloc _
      have hmM : MapI wM w2.heap.size 0 (fun _ => 0) := by rw [hwM]; exact MapI.made w2
      obtain ⟨wB, hwB⟩ : ∃ wB, wB = wM.alloc (.cells #[I 0, .slice none 0 0, .slice none 0 0, .slice none 0 0] 26) := ⟨_, rfl⟩
      have hxB : Ext wM wB := by rw [hwB]; exact (Ext.refl _).alloc _
      have hsM : wM.heap.size = w2.heap.size + 1 := by rw [hwM]; simp
      have hbB : Box wB (w2.heap.size + 1) 26 [I 0, .slice none 0 0, .slice none 0 0, .slice none 0 0] := by rw [← hsM, hwB]; exact Box.new wM _ _
      have HMB := Lib.hid (hmM.ext hxB); have HBB := Lib.hid hbB; have XB := Lib.hid (hxM.trans hxB)
      have HWB : Hid (wB = (w2.alloc (.map #[] 0)).alloc (.cells #[I 0, .slice none 0 0, .slice none 0 0, .slice none 0 0] 26)) := by unfold Hid; rw [hwB, hwM]
      have X12 := Lib.hid hxw2; have IS := Lib.hid his
      have N2 := Lib.hid (NN.out.keep hxw2.keeps)
      have D1 := Lib.hid (hxw2.keeps _ _ B1.out)
      have hb1 := XB.out.keeps _ _ D1.out
      obtain ⟨b7, hb7⟩ : ∃ b7, b7 = w2.heap.size + 1 := ⟨_, rfl⟩
      obtain ⟨mb, hmb⟩ : ∃ mb, mb = w2.heap.size := ⟨_, rfl⟩
      have HB7 := Lib.hid hb7; have HMBE := Lib.hid hmb
      clear hxw2 q5 q29 q28 q26 k27 q27 his hwM hxM hmM hwB hxB hsM hbB
      rw [← hb7] at HBB
      rw [← hmb] at HMB
      clear hb7 hmb
      have hmm := @run_makeMap Try.prog
      go_upto_region 7 with fail
      clear hmm
      rw [← HWB.out, ← HB7.out, ← HMBE.out]
      go_wp2_with fail
      clear hb1 HWB
      go_loopw [34] (fun j wr => ∃ (k : Nat) (A : Option Addr) (c : Nat) (vs : List Value) (mf : Int → Int), k ≤ gn ∧ j = .int .i64 k ∧ Ext w2 wr ∧ Box wr b7 26 [I 0, .slice A (cnt ((isM N).take k)) c, .slice none 0 0, .slice none 0 0] ∧ OwnG wr w2.heap.size (.slice A (cnt ((isM N).take k)) c) (keepGs id (N.gates.take k) ((isM N).take k)) vs ∧
        MapI wr mb (cnt ((isM N).take k)) mf ∧ MapTo N k mf) (fun j _ => gn - (intOf j).toNat)
      case atStart => exact ⟨0, none, 0, [], fun _ => 0, Nat.zero_le _, rfl, XB.out, HBB.out, OwnG.nil _ _, HMB.out, fun j hj => by omega⟩
      case round =>
        obtain ⟨k, A, c, vs, mf, hk, rfl, hext, hbx, hog, hmap, hto⟩ := hrel
        by_cases hlt : k < gn
        · obtain ⟨b, off, A', m', c', g, rfl, c0, c1, c2, hsg, hmc, hcm, -, hg⟩ := (N2.out.keep hext.keeps).gates.next hlt
          obtain ⟨vb, vo, bk, rfl, hv0, hbk⟩ := IS.out.at_ hlt
          have hcn := cnt_next hbk
          have hkn := keepGs_next (f := id) hg hbk
          obtain ⟨wa, hwa⟩ : ∃ wa, wa = wr.alloc (.cells #[I g.kind, I g.num, .slice A' m' c'] 34) := ⟨_, rfl⟩
          have hxa : Ext wr wa := by rw [hwa]; exact (Ext.refl _).alloc _
          have hba : Box wa wr.heap.size 34 [I g.kind, I g.num, .slice A' m' c'] := by rw [hwa]; exact Box.new wr _ _
          have hcv := hxa.keeps _ _ (hext.keeps _ _ hv0)
          rw [hwa] at hcv
          cases bk with
          | false =>
            simp only [Bool.false_eq_true, if_false, Nat.add_zero, List.append_nil] at hcn hkn
            have HE := Lib.hid (hext.trans hxa); have HBX := Lib.hid (hbx.ext hxa); have HOG := Lib.hid (hog.ext hxa); have HMP := Lib.hid (hmap.ext hxa); have HTO := Lib.hid (hto.skip hbk); have HCN := Lib.hid hcn; have HKN := Lib.hid hkn; have HWA := Lib.hid hwa
            clear hext hbx hog hmap hto hcn hkn hbk hv0 hsg hmc hcm hg hwa hxa hba
            go_wp2
            rw [← HWA.out]
            go_roundw
            case rel => exact ⟨k + 1, A, c, vs, mf, by omega, by go_num, HE.out, by rw [HCN.out]; exact HBX.out, by rw [HCN.out, HKN.out]; exact HOG.out, by rw [HCN.out]; exact HMP.out, HTO.out⟩
            case measure => simp [intOf]; omega
          | true =>
            simp only [if_true] at hcn hkn
            have hml : m' ≤ 16 := by have := HOK.out.al g (List.mem_of_getElem? hg); have := hsg.len; omega
            have hgl : g.args.length = m' := hsg.len
            have hlen := HLK.out k
            have hc2 : cnt ((isM N).take k) ≤ 200 := by have := cnt_len ((isM N).take k); have := List.length_take_le k (isM N); omega
            obtain ⟨nk, hnk⟩ : ∃ nk, nk = cnt ((isM N).take k) := ⟨_, rfl⟩
            have hto' := hto.next
            rw [← hnk] at hbx hog hcn hlen hc2 hmap hto'
            have HBXA := Lib.hid (hbx.ext hxa); have HOGA := Lib.hid (hog.ext hxa); have HMPA := Lib.hid (hmap.ext hxa); have HXA := Lib.hid (hext.trans hxa); have HBA := Lib.hid hba
            have HSG := Lib.hid (hsg.keep hxa.keeps); have HLEN := Lib.hid hlen; have HGLA := Lib.hid hgl; have HKN := Lib.hid hkn; have HCN := Lib.hid hcn; have HTO := Lib.hid hto'; have HWA := Lib.hid hwa
            have m1 := (HBXA.out.cell 1).trans rfl
            simp only [List.getElem?_cons_zero, List.getElem?_cons_succ] at m1
            rw [hwa] at m1
            clear hext hbx hog hmap hto hto' hcn hkn hbk hv0 hsg hmc hcm hlen hg hwa hxa hba hgl hnk
            have W1 := Lib.hid (wf_small (a := (k : Int)) (by omega) (by omega)); have W2 := Lib.hid (wf_small (a := (nk : Int)) (by omega) (by omega))
            go_wp2_with (rw [← HWA.out]; refine wpList_updateI rfl (.tmp 43) (.tmp 44) (.tmp 47) rfl mb nk mf rfl HMPA.out (by unfold maxLen; omega) k nk rfl rfl W1.out W2.out ?_; intro wq hmq hgq)
            have hnb : some b7 ≠ some mb := by have := HMPA.out.ne_box HBXA.out; simpa using this
            have hbq := HBXA.out.kept hgq (fun e => hnb e.symm)
            have hnr : (Value.slice A nk c).ownBlock = none ∨ (Value.slice A nk c).ownBlock ≠ some mb := .inr (fun e => HMPA.out.ne_row HOGA.out.row e.symm)
            have hogq := HOGA.out.kept hgq hnr (fun v hv => .inr (fun e => by
              obtain ⟨j, hj⟩ := List.mem_iff_getElem?.1 hv
              have hj2 : j < (keepGs id (N.gates.take k) ((isM N).take k)).length := by have := HOGA.out.vl; have := (List.getElem?_eq_some_iff.1 hj).1; omega
              exact HMPA.out.ne_row (HOGA.out.own j v _ hj (List.getElem?_eq_getElem hj2)) e.symm))
            have hnb2 : some wr.heap.size ≠ some mb := by have := HMPA.out.ne_box HBA.out; simpa using this
            have hba2 := HBA.out.kept hgq (fun e => hnb2 e.symm)
            have hxq : Ext w2 wq := Below.grown HXA.out hgq HXA.out.size (fun x hx => by injection hx with hx; subst hx; rw [HMBE.out]; exact Nat.le_refl _)
            have hsq : Sl wq A' m' (g.args.map I) := ⟨HSG.out.1, fun j u hu => by
              obtain ⟨p, o, e, hc⟩ := HSG.out.2 j u hu
              refine ⟨p, o, e, (hgq.cell_far ⟨p, o + j, none⟩ (lt_of_cell hc) (fun q => ?_)).trans hc⟩
              have q1 : p = mb := by simpa using q
              subst q1
              obtain ⟨D, ⟨es, clock, hb, -⟩, -⟩ := HMPA.out
              unfold World.cell? at hc
              rw [hb] at hc; simp at hc⟩
            have HBXQ := Lib.hid hbq; have HOGQ := Lib.hid hogq; have HEQ := Lib.hid hxq; have HMQ := Lib.hid hmq
            have hov : ∀ Q, Ext wq Q → Calls Try.prog 107 #[gateV g.kind g.num A' m' c'] Q fun e w' => ∃ A2 c2, e = .returned (gateV g.kind g.num A2 m' c2) ∧ w'.ownsRow Q.heap.size 3 1 (.slice A2 m' c2) m' (g.args.map I) ∧ Ext Q w' := fun Q hQ => own_any g.kind g.num A' m' c' g.args Q (hsq.keep hQ.keeps) (by omega)
            have OW := Lib.hid hov
            have G0 : Hid (wq.cell? ⟨wr.heap.size, 0, none⟩ = some (I g.kind)) := hba2.cell 0; have G1 : Hid (wq.cell? ⟨wr.heap.size, 1, none⟩ = some (I g.num)) := hba2.cell 1; have G2 : Hid (wq.cell? ⟨wr.heap.size, 2, none⟩ = some (.slice A' m' c')) := hba2.cell 2
            have M1 : Hid (wq.cell? ⟨b7, 1, none⟩ = some (.slice A nk c)) := hbq.cell 1
            clear m1 hnb hbq hnr hogq hnb2 hba2 hxq hsq hov hmq hgq HBXA HOGA HMPA HBA HSG hcv
            refine wp_flow4 5 3 [isV (.pointer (some ⟨b7, 1, none⟩)), isV (.slice A nk c), isV (.agg #[I g.kind, I g.num, .slice A' m' c']), fun v w => ∃ A c, v = .agg #[I g.kind, I g.num, .slice A m' c] ∧ w.ownsRow wq.heap.size 3 1 (.slice A m' c) m' (g.args.map I), fun v w => ∃ b A c, v = .slice (some ⟨b, 0, none⟩) 1 1 ∧ Box w b 34 [I g.kind, I g.num, .slice A m' c] ∧ w.ownsRow wq.heap.size 3 1 (.slice A m' c) m' (g.args.map I)] (by kernel_rfl) rfl rfl (by kernel_rfl) (by kernel_rfl) ⟨isV_mono, isV_mono, isV_mono, fun v w w' ⟨A, c, e, h⟩ hx => ⟨A, c, e, own_ext h hx⟩, fun v w w' ⟨b, A, c, e, h, k⟩ hx => ⟨b, A, c, e, h.ext hx, own_ext k hx⟩, trivial⟩ ?each ?rest
            case each =>
              refine .cons ?_ (.cons ?_ (.cons ?_ (.cons ?_ (.cons ?_ (.nil)))))
              · intro fa fw hx hs hb
                have s7 : fa.tmps[(7 : Nat)]? = some (.pointer (some ⟨b7, 0, none⟩)) := (hb 7 (by kernel_rfl)).trans (by rfl)
                refine .inl ⟨wanted_free rfl, fun K hK => ?_⟩
                clear hs hb hx
                go_simp
                exact hK _ _ rfl (Ext.refl _)
              · intro fa fw hx hs hb
                obtain ⟨_, s48, rfl⟩ := hs 0 48 (by kernel_rfl) (by kernel_rfl)
                have c0 := hx.keeps _ _ M1.out
                refine .inl ⟨wanted_free rfl, fun K hK => ?_⟩
                clear hs hb hx
                go_simp
                exact hK _ _ rfl (Ext.refl _)
              · intro fa fw hx hs hb
                have s9 : fa.tmps[(9 : Nat)]? = some (.pointer (some ⟨wr.heap.size, 0, none⟩)) := (hb 9 (by kernel_rfl)).trans (by rfl)
                have c0 := hx.keeps _ _ G0.out
                have c1 := hx.keeps _ _ G1.out
                have c2 := hx.keeps _ _ G2.out
                refine .inl ⟨wanted_free rfl, fun K hK => ?_⟩
                clear hs hb hx
                go_simp
                exact hK _ _ rfl (Ext.refl _)
              · intro fa fw hx hs hb
                obtain ⟨_, s50, rfl⟩ := hs 2 50 (by kernel_rfl) (by kernel_rfl)
                refine .inl ⟨wanted_free rfl, fun K hK => ?_⟩
                clear hs hb
                go_simp
                refine (OW.out fw hx).mono ?_
                rintro e w' ⟨A', c', rfl, ho, xq⟩
                exact hK _ _ ⟨A', c', rfl, own_base ho hx.size⟩ xq
              · intro fa fw hx hs hb
                obtain ⟨_, s51, A51, c51, rfl, q51⟩ := hs 3 51 (by kernel_rfl) (by kernel_rfl)
                refine .inl ⟨wanted_free rfl, fun K hK => ?_⟩
                clear hs hb
                go_simp
                exact hK _ _ ⟨fw.heap.size, A51, c51, rfl, Box.new fw _ _, own_ext q51 ((Ext.refl fw).alloc _)⟩ ((Ext.refl _).alloc _)
            case rest =>
              intro w5 hxw5
              rintro _ rfl
              rintro _ rfl
              rintro _ rfl
              rintro _ ⟨A51, c51, rfl, q51⟩
              rintro _ ⟨b52, A52, c52, rfl, k52, q52⟩
              simp only [putAll, List.take, Act.put, List.setIfInBounds_toArray, List.set_cons_zero, List.set_cons_succ]
              obtain ⟨inf, hti, htz, hts1, hts2⟩ := info_parts tab_gate
              have hog5 := HOGQ.out.ext hxw5
              have hbx5 := HBXQ.out.ext hxw5
              have hmp5 := HMQ.out.ext hxw5
              refine wpAny_ready (rs := [5]) (by kernel_rfl) (by simp) (AllReady.cons rfl (fun KK hKK => ?_) AllReady.nil)
              refine step_append_lies _ rfl (.tmp 49) (.tmp 52) 22 rfl w2.heap.size 34 inf _ 3 40 Try.underlying22 hti htz hts1 hts2 rfl (by omega) (.slice A nk c) nk _ rfl (by have := hog5.row; rw [HLEN.out] at this; exact this) ⟨b52, 0, none⟩ 1 1 [I g.kind, I g.num, .slice A52 m' c52] rfl rfl (fun j u hu => by rw [add_zero, k52.cell]; exact hu) (by simp [Value.oneCell']) (by omega) (by unfold maxLen; omega) (by omega) (HEQ.out.trans hxw5).size _ rfl ?_
              intro g6 cap6 w6 hown6 hgr6 _ _
              refine hKK _ _ ?_
              clear hKK KK
              have hog6 := HOGQ.out.push hxw5 HEQ.out.size (g := g) (v := .slice A52 m' c52) (by rw [HGLA.out]; exact q52) (by rw [HLEN.out]; exact hown6) hgr6
              have hrow : (Value.slice A nk c).ownBlock ≠ some b7 := hbx5.apart hog5.row (by decide)
              have hbx6 := hbx5.kept hgr6 hrow
              have hmp6 := hmp5.kept hgr6 (hmp5.ne_row hog5.row)
              have hx6 : Ext w2 w6 := Below.grown (HEQ.out.trans hxw5) hgr6 (HEQ.out.trans hxw5).size (fun b hb => (hog5.row.lt b hb).1)
              have m1 := (hbx6.cell 1).trans rfl
              simp only [List.getElem?_cons_zero, List.getElem?_cons_succ] at m1
              have f6 := hbx6.free
              have hnm : b7 ≠ mb := hmp6.ne_box hbx6
              have HB6 := Lib.hid hbx6; have HG6 := Lib.hid hog6; have HM6 := Lib.hid hmp6; have HX6 := Lib.hid hx6; have HNM := Lib.hid hnm
              clear hbx6 hog6 hmp6 hx6 hbx5 hog5 hmp5 hrow hown6 hgr6 k52 q52 q51 hnm
              refine wpAny_ready (rs := [6]) (by kernel_rfl) (by simp) (AllReady.cons rfl (fun KK hKK => ?_) AllReady.nil)
              go_simp
              refine hKK _ _ ?_
              clear hKK KK
              refine wpAny_ready (rs := [7]) (by kernel_rfl) (by simp) (AllReady.cons rfl (fun KK hKK => ?_) AllReady.nil)
              go_simp
              refine hKK _ _ ?_
              clear hKK KK m1 f6
              refine wpAny_done (by kernel_rfl) ?_ _
              have HB7' := Lib.hid (HB6.out.set 1 (.slice (some ⟨g6, 0, none⟩) (nk + 1) cap6)); have HG7 := Lib.hid (HG6.out.box HB6.out 1 (.slice (some ⟨g6, 0, none⟩) (nk + 1) cap6))
              have HM7 := Lib.hid (HM6.out.set HNM.out 1 (.slice (some ⟨g6, 0, none⟩) (nk + 1) cap6))
              have hge : w2.heap.size ≤ b7 := by rw [HB7.out]; omega
              have HX7 := Lib.hid (HX6.out.setCell (p := ⟨b7, 1, none⟩) hge (.slice (some ⟨g6, 0, none⟩) (nk + 1) cap6))
              clear HB6 HG6 HM6 HX6 hge
              go_wp2
              go_roundw
              case rel => exact ⟨k + 1, some ⟨g6, 0, none⟩, cap6, vs ++ [.slice A52 m' c52], _, by omega, by go_num, HX7.out, by rw [HCN.out]; exact HB7'.out, by rw [HCN.out, HKN.out]; exact HG7.out, by rw [HCN.out]; exact HM7.out, HTO.out⟩
              case measure => simp [intOf]; omega
        · obtain rfl : gn = k := by omega
          have ht1 : N.gates.take gn = N.gates := List.take_of_length_le (by rw [HGL.out]; exact Nat.le_refl _)
          have ht2 : (isM N).take gn = isM N := List.take_of_length_le (by rw [HIL.out]; exact Nat.le_refl _)
          rw [ht1, ht2] at hog
          rw [ht2] at hbx hmap
          obtain ⟨H, hH⟩ : ∃ H, H = keepGs id N.gates (isM N) := ⟨_, rfl⟩
          obtain ⟨dn, hdn⟩ : ∃ dn, dn = cnt (isM N) := ⟨_, rfl⟩
          rw [← hH] at hog
          rw [← hdn] at hbx hog hmap
          have hHl : H.length = dn := by rw [hH, hdn]; exact keepGs_len id _ _ (is_len N).symm
          have hHd : (dropN N).gates = H.map (renG (toM N)) := by rw [hH, ← keepGs_map]; rfl
          have hto2 : MapTo N N.gates.length mf := by rw [HGL.out]; exact hto
          have hHa : ∀ g ∈ H, g.args.length ≤ 16 ∧ ∀ a ∈ g.args, (0 ≤ a ∧ a ≤ 1000000) ∧ mf a = valI (toM N) a := by
            intro g hg
            rw [hH] at hg
            obtain ⟨j, h1, h2⟩ := mem_keepGs hg
            refine ⟨HOK.out.al g (List.mem_of_getElem? h1), fun a ha => ?_⟩
            have hon := kept_args HOK.out h1 (by simp [onI, h2]) a ha
            have hr := HOK.out.gate (List.mem_of_getElem? h1)
            obtain ⟨r0, r1⟩ := hr.args a ha
            have := HGL.out
            exact ⟨⟨r0, by omega⟩, hto2.to hon r0⟩
          have hwant : ∀ a ∈ N.outs ++ nextsM N, (0 ≤ a ∧ a ≤ 1000000) ∧ mf a = valI (toM N) a := by
            intro a ha
            obtain ⟨r0, r1⟩ := wanted_in HOK.out a ha
            have := HGL.out
            exact ⟨⟨r0, by omega⟩, hto2.to (want_on HOK.out ha) r0⟩
          have hdn2 : dn ≤ 200 := by rw [hdn]; have := cnt_len (isM N); have := HIL.out; omega
          obtain ⟨wg, hwg⟩ : ∃ q, q = wr := ⟨_, rfl⟩
          subst hwg
          have HHL := Lib.hid hHl; have HHD := Lib.hid hHd; have HHA := Lib.hid hHa; have HWANT := Lib.hid hwant
          have HE := Lib.hid hext; have HBX := Lib.hid hbx; have HOG := Lib.hid hog; have HMP := Lib.hid hmap
          have XG := Lib.hid (X12.out.trans hext)
          have E0 := Lib.hid (XG.out.keeps _ _ B0.out); have E2 := Lib.hid (XG.out.keeps _ _ B2.out); have E3 := Lib.hid (XG.out.keeps _ _ B3.out)
          have hcs : ∀ Q, Ext wg Q → Calls Try.prog 105 #[.slice RA rn rc] Q fun e w' => ∃ v, e = .returned v ∧ w'.ownsRow Q.heap.size 78 2 v rn (storeCs N.regs) ∧ Ext Q w' := fun Q hQ => cloneStores_any RA rn rc N.regs Q (NN.out.regs.keep (XG.out.trans hQ).keeps) (by omega)
          have hci : ∀ Q, Ext wg Q → Calls Try.prog 106 #[.slice OA on oc] Q fun e w' => ∃ v, e = .returned v ∧ w'.ownsRow Q.heap.size 3 1 v on (N.outs.map I) ∧ Ext Q w' := fun Q hQ => cloneInts_any OA on oc N.outs Q (NN.out.outs.keep (XG.out.trans hQ).keeps) (by omega)
          have CS := Lib.hid hcs; have CI := Lib.hid hci
          clear hext hbx hog hmap hto hto2 ht1 ht2 hH hdn hHl hHd hHa hwant hcs hci
          go_wp2_with fail
          refine wp_flow4 9 5 [isV (.pointer (some ⟨w.heap.size, 0, none⟩)), isV (I i), isV (.pointer (some ⟨w.heap.size, 2, none⟩)), isV (.slice RA rn rc), fun v w => ∃ A c, v = .slice A rn c ∧ w.ownsRow wg.heap.size 78 2 (.slice A rn c) rn (storeCs N.regs), isV (.pointer (some ⟨w.heap.size, 3, none⟩)), isV (.slice OA on oc), fun v w => ∃ A c, v = .slice A on c ∧ w.ownsRow wg.heap.size 3 1 (.slice A on c) on (N.outs.map I), isV (.pointer (some ⟨b7, 0, none⟩))] (by kernel_rfl) rfl rfl (by kernel_rfl) (by kernel_rfl) ⟨isV_mono, isV_mono, isV_mono, isV_mono, fun v w w' ⟨A, c, e, h⟩ hx => ⟨A, c, e, own_ext h hx⟩, isV_mono, isV_mono, fun v w w' ⟨A, c, e, h⟩ hx => ⟨A, c, e, own_ext h hx⟩, isV_mono, trivial⟩ ?each ?rest
          case each =>
            refine .cons ?_ (.cons ?_ (.cons ?_ (.cons ?_ (.cons ?_ (.cons ?_ (.cons ?_ (.cons ?_ (.cons ?_ (.nil)))))))))
            · intro fa fw hx hs hb
              have s1 : fa.tmps[(1 : Nat)]? = some (.pointer (some ⟨w.heap.size, 0, none⟩)) := (hb 1 (by kernel_rfl)).trans (by rfl)
              refine .inl ⟨wanted_free rfl, fun K hK => ?_⟩
              clear hs hb hx
              go_simp
              exact hK _ _ rfl (Ext.refl _)
            · intro fa fw hx hs hb
              obtain ⟨_, s56, rfl⟩ := hs 0 56 (by kernel_rfl) (by kernel_rfl)
              have c0 := hx.keeps _ _ E0.out
              refine .inl ⟨wanted_free rfl, fun K hK => ?_⟩
              clear hs hb hx
              go_simp
              exact hK _ _ rfl (Ext.refl _)
            · intro fa fw hx hs hb
              have s1 : fa.tmps[(1 : Nat)]? = some (.pointer (some ⟨w.heap.size, 0, none⟩)) := (hb 1 (by kernel_rfl)).trans (by rfl)
              refine .inl ⟨wanted_free rfl, fun K hK => ?_⟩
              clear hs hb hx
              go_simp
              exact hK _ _ rfl (Ext.refl _)
            · intro fa fw hx hs hb
              obtain ⟨_, s58, rfl⟩ := hs 2 58 (by kernel_rfl) (by kernel_rfl)
              have c0 := hx.keeps _ _ E2.out
              refine .inl ⟨wanted_free rfl, fun K hK => ?_⟩
              clear hs hb hx
              go_simp
              exact hK _ _ rfl (Ext.refl _)
            · intro fa fw hx hs hb
              obtain ⟨_, s59, rfl⟩ := hs 3 59 (by kernel_rfl) (by kernel_rfl)
              refine .inl ⟨wanted_free rfl, fun K hK => ?_⟩
              clear hs hb
              go_simp
              refine (CS.out fw hx).mono ?_
              rintro e w' ⟨r0, rfl, ho, xq⟩
              obtain ⟨Aq, cq, rfl, -, -, -⟩ := own_slice ho
              exact hK _ _ ⟨Aq, cq, rfl, own_base ho hx.size⟩ xq
            · intro fa fw hx hs hb
              have s1 : fa.tmps[(1 : Nat)]? = some (.pointer (some ⟨w.heap.size, 0, none⟩)) := (hb 1 (by kernel_rfl)).trans (by rfl)
              refine .inl ⟨wanted_free rfl, fun K hK => ?_⟩
              clear hs hb hx
              go_simp
              exact hK _ _ rfl (Ext.refl _)
            · intro fa fw hx hs hb
              obtain ⟨_, s61, rfl⟩ := hs 5 61 (by kernel_rfl) (by kernel_rfl)
              have c0 := hx.keeps _ _ E3.out
              refine .inl ⟨wanted_free rfl, fun K hK => ?_⟩
              clear hs hb hx
              go_simp
              exact hK _ _ rfl (Ext.refl _)
            · intro fa fw hx hs hb
              obtain ⟨_, s62, rfl⟩ := hs 6 62 (by kernel_rfl) (by kernel_rfl)
              refine .inl ⟨wanted_free rfl, fun K hK => ?_⟩
              clear hs hb
              go_simp
              refine (CI.out fw hx).mono ?_
              rintro e w' ⟨r0, rfl, ho, xq⟩
              obtain ⟨Aq, cq, rfl, -, -, -⟩ := own_sl ho
              exact hK _ _ ⟨Aq, cq, rfl, own_base ho hx.size⟩ xq
            · intro fa fw hx hs hb
              have s7 : fa.tmps[(7 : Nat)]? = some (.pointer (some ⟨b7, 0, none⟩)) := (hb 7 (by kernel_rfl)).trans (by rfl)
              refine .inl ⟨wanted_free rfl, fun K hK => ?_⟩
              clear hs hb hx
              go_simp
              exact hK _ _ rfl (Ext.refl _)
          case rest =>
            intro w8 hxw8
            rintro _ rfl
            rintro _ rfl
            rintro _ rfl
            rintro _ rfl
            rintro _ ⟨A60, c60, rfl, q60⟩
            rintro _ rfl
            rintro _ rfl
            rintro _ ⟨A63, c63, rfl, q63⟩
            rintro _ rfl
            simp only [putAll, List.take, Act.put, List.setIfInBounds_toArray, List.set_cons_zero, List.set_cons_succ]
            have hbx8 := HBX.out.ext hxw8
            have m0 := (hbx8.cell 0).trans rfl; have m2 := (hbx8.cell 2).trans rfl; have m3 := (hbx8.cell 3).trans rfl
            simp only [List.getElem?_cons_zero, List.getElem?_cons_succ] at m0 m2 m3
            have f8 := hbx8.free
            have HB8 := Lib.hid hbx8; have X8 := Lib.hid hxw8; have QR := Lib.hid q60; have QO := Lib.hid q63
            clear hbx8 hxw8 q60 q63
            refine wpAny_ready (rs := [9]) (by kernel_rfl) (by simp) (AllReady.cons rfl (fun KK hKK => ?_) AllReady.nil)
            go_simp
            refine hKK _ _ ?_
            clear hKK KK
            refine wpAny_ready (rs := [10]) (by kernel_rfl) (by simp) (AllReady.cons rfl (fun KK hKK => ?_) AllReady.nil)
            go_simp
            refine hKK _ _ ?_
            clear hKK KK
            refine wpAny_ready (rs := [11]) (by kernel_rfl) (by simp) (AllReady.cons rfl (fun KK hKK => ?_) AllReady.nil)
            go_simp
            refine hKK _ _ ?_
            clear hKK KK
            refine wpAny_ready (rs := [12]) (by kernel_rfl) (by simp) (AllReady.cons rfl (fun KK hKK => ?_) AllReady.nil)
            go_simp
            refine hKK _ _ ?_
            clear hKK KK
            refine wpAny_ready (rs := [13]) (by kernel_rfl) (by simp) (AllReady.cons rfl (fun KK hKK => ?_) AllReady.nil)
            go_simp
            refine hKK _ _ ?_
            clear hKK KK
            clear m0 m2 m3 f8
            refine wpAny_done (by kernel_rfl) ?_ _
            obtain ⟨w9, hw9⟩ : ∃ w9, w9 = ((w8.setCell ⟨b7, 0, none⟩ (I i)).setCell ⟨b7, 2, none⟩ (.slice A60 rn c60)).setCell ⟨b7, 3, none⟩ (.slice A63 on c63) := ⟨_, rfl⟩
            have hge : w2.heap.size ≤ b7 := by rw [HB7.out]; omega
            have hDW : DropW w2 b7 mb dn mf i A dn c A60 rn c60 A63 on c63 vs w9 H N.regs N.outs := by
              have hg8 := HOG.out.ext X8.out
              have hm8 := HMP.out.ext X8.out
              have hnm : b7 ≠ mb := hm8.ne_box HB8.out
              have ar := HB8.out.apart QR.out (by decide); have ao := HB8.out.apart QO.out (by decide)
              refine ⟨?_, ?_, ?_, ?_, ?_, ?_, ?_⟩
              · rw [hw9]; exact (((HE.out.trans X8.out).setCell (p := ⟨b7, 0, none⟩) hge _).setCell (p := ⟨b7, 2, none⟩) hge _).setCell (p := ⟨b7, 3, none⟩) hge _
              · rw [hw9]; exact ((HB8.out.set 0 (I i)).set 2 (.slice A60 rn c60)).set 3 (.slice A63 on c63)
              · rw [hw9]; exact ((hg8.box HB8.out 0 (I i)).box (HB8.out.set 0 (I i)) 2 (.slice A60 rn c60)).box ((HB8.out.set 0 (I i)).set 2 (.slice A60 rn c60)) 3 (.slice A63 on c63)
              · rw [hw9]; exact own_base (own_set (own_set (own_set QR.out ar _ _) ar _ _) ar _ _) HE.out.size
              · rw [hw9]; exact own_base (own_set (own_set (own_set QO.out ao _ _) ao _ _) ao _ _) HE.out.size
              · rw [hw9]; exact ((hm8.set hnm 0 (I i)).set hnm 2 (.slice A60 rn c60)).set hnm 3 (.slice A63 on c63)
              · intro v hv ob hO e
                obtain ⟨j, hj⟩ := List.mem_iff_getElem?.1 hv
                have hj2 : j < H.length := by have := HOG.out.vl; have := (List.getElem?_eq_some_iff.1 hj).1; omega
                have h1 := (HOG.out.own j v _ hj (List.getElem?_eq_getElem hj2)).lt ob e
                have h2 := (QO.out.lt ob (by rw [hO]; simp [Value.ownBlock])).1
                omega
            have DW := Lib.hid hDW; have HW9 := Lib.hid hw9
            have hm1 := (hDW.box.cell 1).trans rfl
            simp only [List.getElem?_cons_zero, List.getElem?_cons_succ] at hm1
            clear hDW hw9 HB8 X8 QR QO
            rw [← HW9.out]
            go_wp2_with fail
            clear hm1 HW9
            go_loopw [70] (fun j wr => ∃ (k : Nat), k ≤ dn ∧ j = .int .i64 k ∧ DropW w2 b7 mb dn mf i A dn c A60 rn c60 A63 on c63 vs wr (mixA (renG (toM N)) k H) N.regs N.outs) (fun j _ => dn - (intOf j).toNat)
            case atStart => exact ⟨0, Nat.zero_le _, rfl, by rw [mixA_zero]; exact DW.out⟩
            case round =>
              obtain ⟨k, hk, rfl, hd⟩ := hrel
              have hm1 := (hd.box.cell 1).trans rfl
              simp only [List.getElem?_cons_zero, List.getElem?_cons_succ] at hm1
              by_cases hlt : k < dn
              · obtain ⟨g, hg⟩ : ∃ g, H[k]? = some g := ⟨_, List.getElem?_eq_getElem (by rw [HHL.out]; exact hlt)⟩
                have hgm := mixA_at (renG (toM N)) hg
                obtain ⟨v, hv⟩ : ∃ v, vs[k]? = some v := ⟨_, List.getElem?_eq_getElem (by have := hd.gates.vl; rw [mixA_len, HHL.out] at this; omega)⟩
                obtain ⟨hg16, hga⟩ := HHA.out g (List.mem_of_getElem? hg)
                obtain ⟨gb, gcc, eg⟩ := own_form hd.gates.row (by rw [mixA_len, HHL.out]; omega)
                have eA : A = some ⟨gb, 0, none⟩ := by injection eg
                clear eg
                subst eA
                have hrow := hd.gates.row
                rw [mixA_len, HHL.out] at hrow
                obtain ⟨-, -, e2⟩ := gateCs_at _ vs k g v hgm hv
                obtain ⟨Av, cv, rfl, -, -, -⟩ := own_sl (hd.gates.own k v g hv hgm)
                obtain ⟨m, hm⟩ : ∃ m, m = g.args.length := ⟨_, rfl⟩
                rw [← hm] at hv e2 hg16
                have c2 := hrow.cellAt (k * 3 + 2) (by omega)
                rw [e2] at c2
                have HV := Lib.hid hv; have HGM := Lib.hid hgm; have HG := Lib.hid hg; have HGA := Lib.hid hga; have HD := Lib.hid hd; have HM := Lib.hid hm
                clear hd hv hgm hg hga hrow e2 hm
                go_wp2_with fail
                clear hm1 c2
                go_loopw [80] (fun j wr2 => ∃ (q : Nat), q ≤ m ∧ j = .int .i64 q ∧ DropW w2 b7 mb dn mf i (some ⟨gb, 0, none⟩) dn c A60 rn c60 A63 on c63 vs wr2 ((mixA (renG (toM N)) k H).set k ⟨g.kind, g.num, mixA (valI (toM N)) q g.args⟩) N.regs N.outs) (fun j _ => m - (intOf j).toNat)
                case atStart => exact ⟨0, Nat.zero_le _, rfl, by rw [mixA_zero, set_same HGM.out]; exact HD.out⟩
                case round =>
                  obtain ⟨q, hq, rfl, hd⟩ := hrel
                  have hkG : k < (mixA (renG (toM N)) k H).length := (List.getElem?_eq_some_iff.1 HGM.out).1
                  by_cases hlq : q < m
                  · obtain ⟨a, ha⟩ : ∃ a, g.args[q]? = some a := ⟨_, List.getElem?_eq_getElem (by rw [← HM.out]; exact hlq)⟩
                    obtain ⟨⟨ha0, ha1⟩, hfa⟩ := HGA.out a (List.mem_of_getElem? ha)
                    have hgk : ((mixA (renG (toM N)) k H).set k ⟨g.kind, g.num, mixA (valI (toM N)) q g.args⟩)[k]? = some ⟨g.kind, g.num, mixA (valI (toM N)) q g.args⟩ := List.getElem?_set_self hkG
                    have hown := hd.gates.own k _ _ HV.out hgk
                    simp only [mixA_len] at hown
                    rw [← HM.out] at hown
                    obtain ⟨ab, cc, ea⟩ := own_form hown (by omega)
                    have eAv : Av = some ⟨ab, 0, none⟩ := by injection ea
                    clear ea
                    subst eAv
                    have c3 := hown.cellAt q (by omega)
                    rw [List.getElem?_map, mixA_at _ ha, Option.map_some] at c3
                    have fz := hown.frozenAt
                    have hrow := hd.gates.row
                    simp only [List.length_set, mixA_len, HHL.out] at hrow
                    have c4 := hrow.cellAt (k * 3 + 2) (by omega)
                    obtain ⟨-, -, e2⟩ := gateCs_at _ vs k _ _ hgk HV.out
                    rw [e2] at c4
                    have hm1 := (hd.box.cell 1).trans rfl
                    simp only [List.getElem?_cons_zero, List.getElem?_cons_succ] at hm1
                    have HD2 := Lib.hid hd
                    have HFA := Lib.hid hfa; have HA := Lib.hid ha
                    have WA := Lib.hid (wf_small (a := a) ha0 ha1)
                    have HGK := Lib.hid hgk
                    have C4 : Hid (wr.cell? ⟨gb, k * 3 + 2, none⟩ = some (.slice (some ⟨ab, 0, none⟩) m cv)) := c4
                    have M1 : Hid (wr.cell? ⟨b7, 1, none⟩ = some (.slice (some ⟨gb, 0, none⟩) dn c)) := hm1
                    clear hd hfa ha hown hrow e2 hgk hkG fz
                    go_wp2_with fail
                    clear c3 c4 hm1
                    refine wp_flow4 10 2 [isV (.pointer (some ⟨b7, 1, none⟩)), isV (.slice (some ⟨gb, 0, none⟩) dn c), isV (.int .i64 k), isV (.pointer (some ⟨gb, k * 3, none⟩)), isV (.pointer (some ⟨gb, k * 3 + 2, none⟩)), isV (.slice (some ⟨ab, 0, none⟩) m cv), isV (.int .i64 q), isV (.map (some mb)), isV (I a), isV (I (valI (toM N) a))] (by kernel_rfl) rfl rfl (by kernel_rfl) (by kernel_rfl) ⟨isV_mono, isV_mono, isV_mono, isV_mono, isV_mono, isV_mono, isV_mono, isV_mono, isV_mono, isV_mono, trivial⟩ ?each ?rest
                    case each =>
                      refine .cons ?_ (.cons ?_ (.cons ?_ (.cons ?_ (.cons ?_ (.cons ?_ (.cons ?_ (.cons ?_ (.cons ?_ (.cons ?_ (.nil))))))))))
                      · intro fa fw hx hs hb
                        have s7 : fa.tmps[(7 : Nat)]? = some (.pointer (some ⟨b7, 0, none⟩)) := (hb 7 (by kernel_rfl)).trans (by rfl)
                        refine .inl ⟨wanted_free rfl, fun K hK => ?_⟩
                        clear hs hb hx
                        go_simp
                        exact hK _ _ rfl (Ext.refl _)
                      · intro fa fw hx hs hb
                        obtain ⟨_, s85, rfl⟩ := hs 0 85 (by kernel_rfl) (by kernel_rfl)
                        have c0 := hx.keeps _ _ M1.out
                        refine .inl ⟨wanted_free rfl, fun K hK => ?_⟩
                        clear hs hb hx
                        go_simp
                        exact hK _ _ rfl (Ext.refl _)
                      · intro fa fw hx hs hb
                        have s10 : fa.tmps[(10 : Nat)]? = some (.int .i64 k) := (hb 10 (by kernel_rfl)).trans (by rfl)
                        refine .inl ⟨wanted_free rfl, fun K hK => ?_⟩
                        clear hs hb hx
                        go_simp
                        exact hK _ _ rfl (Ext.refl _)
                      · intro fa fw hx hs hb
                        obtain ⟨_, s86, rfl⟩ := hs 1 86 (by kernel_rfl) (by kernel_rfl)
                        obtain ⟨_, s87, rfl⟩ := hs 2 87 (by kernel_rfl) (by kernel_rfl)
                        refine .inl ⟨wanted_free rfl, fun K hK => ?_⟩
                        clear hs hb hx
                        go_simp
                        exact hK _ _ rfl (Ext.refl _)
                      · intro fa fw hx hs hb
                        obtain ⟨_, s88, rfl⟩ := hs 3 88 (by kernel_rfl) (by kernel_rfl)
                        refine .inl ⟨wanted_free rfl, fun K hK => ?_⟩
                        clear hs hb hx
                        go_simp
                        exact hK _ _ rfl (Ext.refl _)
                      · intro fa fw hx hs hb
                        obtain ⟨_, s89, rfl⟩ := hs 4 89 (by kernel_rfl) (by kernel_rfl)
                        have c0 := hx.keeps _ _ C4.out
                        refine .inl ⟨wanted_free rfl, fun K hK => ?_⟩
                        clear hs hb hx
                        go_simp
                        exact hK _ _ rfl (Ext.refl _)
                      · intro fa fw hx hs hb
                        have s11 : fa.tmps[(11 : Nat)]? = some (.int .i64 q) := (hb 11 (by kernel_rfl)).trans (by rfl)
                        refine .inl ⟨wanted_free rfl, fun K hK => ?_⟩
                        clear hs hb hx
                        go_simp
                        exact hK _ _ rfl (Ext.refl _)
                      · intro fa fw hx hs hb
                        have s6 : fa.tmps[(6 : Nat)]? = some (.map (some mb)) := (hb 6 (by kernel_rfl)).trans (by rfl)
                        refine .inl ⟨wanted_free rfl, fun K hK => ?_⟩
                        clear hs hb hx
                        go_simp
                        exact hK _ _ rfl (Ext.refl _)
                      · intro fa fw hx hs hb
                        have s12 : fa.tmps[(12 : Nat)]? = some (I a) := (hb 12 (by kernel_rfl)).trans (by rfl)
                        refine .inl ⟨wanted_free rfl, fun K hK => ?_⟩
                        clear hs hb hx
                        go_simp
                        exact hK _ _ rfl (Ext.refl _)
                      · intro fa fw hx hs hb
                        obtain ⟨_, s92, rfl⟩ := hs 7 92 (by kernel_rfl) (by kernel_rfl)
                        obtain ⟨_, s93, rfl⟩ := hs 8 93 (by kernel_rfl) (by kernel_rfl)
                        refine .inl ⟨wanted_free rfl, fun K hK => ?_⟩
                        clear hs hb
                        refine wp_lookupI (.tmp 92) (.tmp 93) rfl mb dn mf (by go_simp) (HD2.out.more hx).map _ (by go_simp) WA.out _ HFA.out ?_
                        exact hK _ _ rfl (Ext.refl _)
                    case rest =>
                      intro w3 hxw3
                      rintro _ rfl
                      rintro _ rfl
                      rintro _ rfl
                      rintro _ rfl
                      rintro _ rfl
                      rintro _ rfl
                      rintro _ rfl
                      rintro _ rfl
                      rintro _ rfl
                      rintro _ rfl
                      simp only [putAll, List.take, Act.put, List.setIfInBounds_toArray, List.set_cons_zero, List.set_cons_succ]
                      have hd3 := HD2.out.more hxw3
                      have hown := hd3.gates.own k _ _ HV.out HGK.out
                      simp only [mixA_len] at hown
                      rw [← HM.out] at hown
                      have c3 := hown.cellAt q (by omega)
                      rw [List.getElem?_map, mixA_at _ HA.out, Option.map_some] at c3
                      have fz := hown.frozenAt
                      have hqc : m ≤ cv ∧ cv ≤ maxLen := by
                        obtain ⟨A', c', e, h1, h2, -⟩ := own_sl hown
                        injection e with _ _ e3; subst e3; exact ⟨h1, h2⟩
                      have hqm := hqc.1
                      have hqn := hqc.2
                      unfold maxLen at hqn
                      have hd4 := hd3.arg HGK.out HV.out q (valI (toM N) a)
                      simp only [List.set_set] at hd4
                      rw [mixA_set _ HA.out] at hd4
                      have HD4 := Lib.hid hd4
                      clear hd3 hd4 hown hqc hxw3
                      refine wpAny_ready (rs := [10]) (by kernel_rfl) (by simp) (AllReady.cons rfl (fun KK hKK => ?_) AllReady.nil)
                      go_simp
                      refine hKK _ _ ?_
                      clear hKK KK
                      refine wpAny_ready (rs := [11]) (by kernel_rfl) (by simp) (AllReady.cons rfl (fun KK hKK => ?_) AllReady.nil)
                      go_simp
                      refine hKK _ _ ?_
                      clear hKK KK
                      clear c3 fz
                      refine wpAny_done (by kernel_rfl) ?_ _
                      go_wp2
                      go_roundw
                      case rel => exact ⟨q + 1, by omega, by go_num, HD4.out⟩
                      case measure => simp [intOf]; omega
                  · obtain rfl : m = q := by omega
                    rw [mixA_all _ HM.out.symm] at hd
                    have hd5 : DropW w2 b7 mb dn mf i (some ⟨gb, 0, none⟩) dn c A60 rn c60 A63 on c63 vs wr (mixA (renG (toM N)) (k + 1) H) N.regs N.outs := by
                      rw [← mixA_set _ HG.out]; exact hd
                    have HD5 := Lib.hid hd5
                    clear hd hd5
                    go_wp2
                    go_roundw
                    case rel => exact ⟨k + 1, by omega, by go_num, HD5.out⟩
                    case measure => simp [intOf]; omega
              · obtain rfl : dn = k := by omega
                rw [mixA_all _ HHL.out, ← HHD.out] at hd
                obtain ⟨GG, hGG⟩ : ∃ q, q = (dropN N).gates := ⟨_, rfl⟩
                rw [← hGG] at hd
                have HGG := Lib.hid hGG; have HD := Lib.hid hd
                have hm2 := (hd.box.cell 2).trans rfl
                simp only [List.getElem?_cons_zero, List.getElem?_cons_succ] at hm2
                clear hm1 hd hGG
                go_wp2_with fail
                clear hm2
                go_loopw [101] (fun j wr => ∃ (k : Nat), k ≤ rn ∧ j = .int .i64 k ∧ DropW w2 b7 mb dn mf i A dn c A60 rn c60 A63 on c63 vs wr GG (mixA (regD N) k N.regs) N.outs) (fun j _ => rn - (intOf j).toNat)
                case atStart => exact ⟨0, Nat.zero_le _, rfl, by rw [mixA_zero]; exact HD.out⟩
                case round =>
                  obtain ⟨k, hk, rfl, hd⟩ := hrel
                  by_cases hlr : k < rn
                  · obtain ⟨r, hr⟩ : ∃ r, N.regs[k]? = some r := ⟨_, List.getElem?_eq_getElem (by rw [HRL.out]; exact hlr)⟩
                    have hrm := mixA_at (regD N) hr
                    obtain ⟨⟨hr0, hr1⟩, hfr⟩ := HWANT.out r.next (List.mem_append_right _ (List.mem_map.2 ⟨r, List.mem_of_getElem? hr, rfl⟩))
                    obtain ⟨rb, rcc, er⟩ := own_form hd.regs (by omega)
                    have eR : A60 = some ⟨rb, 0, none⟩ := by injection er
                    clear er
                    subst eR
                    have hcc := flat2_get RB RN (mixA (regD N) k N.regs) k
                    rw [hrm] at hcc
                    have hc2 := hd.regs.cellAt (k * 2 + 1) (by omega)
                    rw [show storeCs (mixA (regD N) k N.regs) = (mixA (regD N) k N.regs).flatMap fun r => [RB r, RN r] from rfl, hcc.2] at hc2
                    have hm2 := (hd.box.cell 2).trans rfl
                    simp only [List.getElem?_cons_zero, List.getElem?_cons_succ] at hm2
                    have HD2 := Lib.hid hd; have HRM := Lib.hid hrm; have HR := Lib.hid hr
                    have HFR := Lib.hid hfr
                    have WR := Lib.hid (wf_small (a := r.next) hr0 hr1)
                    have C2 : Hid (wr.cell? ⟨rb, k * 2 + 1, none⟩ = some (I r.next)) := hc2
                    have M2 : Hid (wr.cell? ⟨b7, 2, none⟩ = some (.slice (some ⟨rb, 0, none⟩) rn c60)) := hm2
                    clear hd hrm hr hfr hcc hc2 hm2
                    go_wp2_with fail
                    refine wp_flow4 11 3 [isV (.pointer (some ⟨b7, 2, none⟩)), isV (.slice (some ⟨rb, 0, none⟩) rn c60), isV (.int .i64 k), isV (.map (some mb)), isV (.pointer (some ⟨b7, 2, none⟩)), isV (.slice (some ⟨rb, 0, none⟩) rn c60), isV (.int .i64 k), isV (.pointer (some ⟨rb, k * 2, none⟩)), isV (.pointer (some ⟨rb, k * 2 + 1, none⟩)), isV (I r.next), isV (I (valI (toM N) r.next))] (by kernel_rfl) rfl rfl (by kernel_rfl) (by kernel_rfl) ⟨isV_mono, isV_mono, isV_mono, isV_mono, isV_mono, isV_mono, isV_mono, isV_mono, isV_mono, isV_mono, isV_mono, trivial⟩ ?each ?rest
                    case each =>
                      refine .cons ?_ (.cons ?_ (.cons ?_ (.cons ?_ (.cons ?_ (.cons ?_ (.cons ?_ (.cons ?_ (.cons ?_ (.cons ?_ (.cons ?_ (.nil)))))))))))
                      · intro fa fw hx hs hb
                        have s7 : fa.tmps[(7 : Nat)]? = some (.pointer (some ⟨b7, 0, none⟩)) := (hb 7 (by kernel_rfl)).trans (by rfl)
                        refine .inl ⟨wanted_free rfl, fun K hK => ?_⟩
                        clear hs hb hx
                        go_simp
                        exact hK _ _ rfl (Ext.refl _)
                      · intro fa fw hx hs hb
                        obtain ⟨_, s104, rfl⟩ := hs 0 104 (by kernel_rfl) (by kernel_rfl)
                        have c0 := hx.keeps _ _ M2.out
                        refine .inl ⟨wanted_free rfl, fun K hK => ?_⟩
                        clear hs hb hx
                        go_simp
                        exact hK _ _ rfl (Ext.refl _)
                      · intro fa fw hx hs hb
                        have s13 : fa.tmps[(13 : Nat)]? = some (.int .i64 k) := (hb 13 (by kernel_rfl)).trans (by rfl)
                        refine .inl ⟨wanted_free rfl, fun K hK => ?_⟩
                        clear hs hb hx
                        go_simp
                        exact hK _ _ rfl (Ext.refl _)
                      · intro fa fw hx hs hb
                        have s6 : fa.tmps[(6 : Nat)]? = some (.map (some mb)) := (hb 6 (by kernel_rfl)).trans (by rfl)
                        refine .inl ⟨wanted_free rfl, fun K hK => ?_⟩
                        clear hs hb hx
                        go_simp
                        exact hK _ _ rfl (Ext.refl _)
                      · intro fa fw hx hs hb
                        have s7 : fa.tmps[(7 : Nat)]? = some (.pointer (some ⟨b7, 0, none⟩)) := (hb 7 (by kernel_rfl)).trans (by rfl)
                        refine .inl ⟨wanted_free rfl, fun K hK => ?_⟩
                        clear hs hb hx
                        go_simp
                        exact hK _ _ rfl (Ext.refl _)
                      · intro fa fw hx hs hb
                        obtain ⟨_, s108, rfl⟩ := hs 4 108 (by kernel_rfl) (by kernel_rfl)
                        have c0 := hx.keeps _ _ M2.out
                        refine .inl ⟨wanted_free rfl, fun K hK => ?_⟩
                        clear hs hb hx
                        go_simp
                        exact hK _ _ rfl (Ext.refl _)
                      · intro fa fw hx hs hb
                        have s13 : fa.tmps[(13 : Nat)]? = some (.int .i64 k) := (hb 13 (by kernel_rfl)).trans (by rfl)
                        refine .inl ⟨wanted_free rfl, fun K hK => ?_⟩
                        clear hs hb hx
                        go_simp
                        exact hK _ _ rfl (Ext.refl _)
                      · intro fa fw hx hs hb
                        obtain ⟨_, s109, rfl⟩ := hs 5 109 (by kernel_rfl) (by kernel_rfl)
                        obtain ⟨_, s110, rfl⟩ := hs 6 110 (by kernel_rfl) (by kernel_rfl)
                        refine .inl ⟨wanted_free rfl, fun K hK => ?_⟩
                        clear hs hb hx
                        go_simp
                        exact hK _ _ rfl (Ext.refl _)
                      · intro fa fw hx hs hb
                        obtain ⟨_, s111, rfl⟩ := hs 7 111 (by kernel_rfl) (by kernel_rfl)
                        refine .inl ⟨wanted_free rfl, fun K hK => ?_⟩
                        clear hs hb hx
                        go_simp
                        exact hK _ _ rfl (Ext.refl _)
                      · intro fa fw hx hs hb
                        obtain ⟨_, s112, rfl⟩ := hs 8 112 (by kernel_rfl) (by kernel_rfl)
                        have c0 := hx.keeps _ _ C2.out
                        refine .inl ⟨wanted_free rfl, fun K hK => ?_⟩
                        clear hs hb hx
                        go_simp
                        exact hK _ _ rfl (Ext.refl _)
                      · intro fa fw hx hs hb
                        obtain ⟨_, s107, rfl⟩ := hs 3 107 (by kernel_rfl) (by kernel_rfl)
                        obtain ⟨_, s113, rfl⟩ := hs 9 113 (by kernel_rfl) (by kernel_rfl)
                        refine .inl ⟨wanted_free rfl, fun K hK => ?_⟩
                        clear hs hb
                        refine wp_lookupI (.tmp 107) (.tmp 113) rfl mb dn mf (by go_simp) (HD2.out.more hx).map _ (by go_simp) WR.out _ HFR.out ?_
                        exact hK _ _ rfl (Ext.refl _)
                    case rest =>
                      intro w3 hxw3
                      rintro _ rfl
                      rintro _ rfl
                      rintro _ rfl
                      rintro _ rfl
                      rintro _ rfl
                      rintro _ rfl
                      rintro _ rfl
                      rintro _ rfl
                      rintro _ rfl
                      rintro _ rfl
                      rintro _ rfl
                      simp only [putAll, List.take, Act.put, List.setIfInBounds_toArray, List.set_cons_zero, List.set_cons_succ]
                      have hd3 := HD2.out.more hxw3
                      have hd4 := hd3.reg HRM.out (valI (toM N) r.next)
                      have hrs : (mixA (regD N) k N.regs).set k ⟨r.fst, valI (toM N) r.next⟩ = mixA (regD N) (k + 1) N.regs := mixA_set (regD N) HR.out
                      rw [hrs] at hd4
                      have fz := hd3.regs.frozenAt
                      have hcc := flat2_get RB RN (mixA (regD N) k N.regs) k
                      rw [HRM.out] at hcc
                      have c3 := hd3.regs.cellAt (k * 2 + 1) (by omega)
                      rw [show storeCs (mixA (regD N) k N.regs) = (mixA (regD N) k N.regs).flatMap fun r => [RB r, RN r] from rfl, hcc.2] at c3
                      have c3 : w3.cell? ⟨rb, k * 2 + 1, none⟩ = some (I r.next) := c3
                      have hqc : rn ≤ c60 ∧ c60 ≤ maxLen := by
                        obtain ⟨A', c', e, h1, h2, -⟩ := own_slice hd3.regs
                        injection e with _ _ e3; subst e3; exact ⟨h1, h2⟩
                      have hqm := hqc.1
                      have hqn := hqc.2
                      unfold maxLen at hqn
                      have HD4 := Lib.hid hd4
                      clear hd3 hd4 hrs hqc hxw3 hcc
                      refine wpAny_ready (rs := [11]) (by kernel_rfl) (by simp) (AllReady.cons rfl (fun KK hKK => ?_) AllReady.nil)
                      go_simp
                      refine hKK _ _ ?_
                      clear hKK KK
                      refine wpAny_ready (rs := [12]) (by kernel_rfl) (by simp) (AllReady.cons rfl (fun KK hKK => ?_) AllReady.nil)
                      go_simp
                      refine hKK _ _ ?_
                      clear hKK KK
                      refine wpAny_ready (rs := [13]) (by kernel_rfl) (by simp) (AllReady.cons rfl (fun KK hKK => ?_) AllReady.nil)
                      go_simp
                      refine hKK _ _ ?_
                      clear hKK KK
                      clear c3 fz
                      refine wpAny_done (by kernel_rfl) ?_ _
                      go_wp2
                      go_roundw
                      case rel => exact ⟨k + 1, by omega, by go_num, HD4.out⟩
                      case measure => simp [intOf]; omega
                  · obtain rfl : rn = k := by omega
                    rw [mixA_all _ HRL.out] at hd
                    obtain ⟨RR, hRR⟩ : ∃ q, q = N.regs.map (regD N) := ⟨_, rfl⟩
                    rw [← hRR] at hd
                    have HRR := Lib.hid hRR; have HD := Lib.hid hd
                    have hm3 := (hd.box.cell 3).trans rfl
                    simp only [List.getElem?_cons_zero, List.getElem?_cons_succ] at hm3
                    clear hd hRR
                    go_wp2_with fail
                    clear hm3
                    go_loopw [121] (fun j wr => ∃ (k : Nat), k ≤ on ∧ j = .int .i64 k ∧ DropW w2 b7 mb dn mf i A dn c A60 rn c60 A63 on c63 vs wr GG RR (mixA (valI (toM N)) k N.outs)) (fun j _ => on - (intOf j).toNat)
                    case atStart => exact ⟨0, Nat.zero_le _, rfl, by rw [mixA_zero]; exact HD.out⟩
                    case round =>
                      obtain ⟨k, hk, rfl, hd⟩ := hrel
                      by_cases hlo : k < on
                      · obtain ⟨a, ha⟩ : ∃ a, N.outs[k]? = some a := ⟨_, List.getElem?_eq_getElem (by rw [HOL.out]; exact hlo)⟩
                        obtain ⟨⟨ha0, ha1⟩, hfa⟩ := HWANT.out a (List.mem_append_left _ (List.mem_of_getElem? ha))
                        obtain ⟨ob, occ, eo⟩ := own_form hd.outs (by omega)
                        have eO : A63 = some ⟨ob, 0, none⟩ := by injection eo
                        clear eo
                        subst eO
                        have hc3 := hd.outs.cellAt k (by omega)
                        rw [List.getElem?_map, mixA_at _ ha, Option.map_some] at hc3
                        have hm3 := (hd.box.cell 3).trans rfl
                        simp only [List.getElem?_cons_zero, List.getElem?_cons_succ] at hm3
                        have fz := hd.outs.frozenAt
                        have hqc : on ≤ c63 ∧ c63 ≤ maxLen := by
                          obtain ⟨A', c', e, h1, h2, -⟩ := own_sl hd.outs
                          injection e with _ _ e3; subst e3; exact ⟨h1, h2⟩
                        have hqm := hqc.1
                        have hqn := hqc.2
                        unfold maxLen at hqn
                        have hd4 := hd.out k (valI (toM N) a)
                        rw [mixA_set _ ha] at hd4
                        have HD4 := Lib.hid hd4; have HMD := Lib.hid hd.map
                        have HFA := Lib.hid hfa; have WA := Lib.hid (wf_small (a := a) ha0 ha1)
                        clear hd hd4 ha hfa hqc
                        go_wp2_with (refine wpList_lookupI rfl (.tmp 129) (.tmp 130) rfl mb dn mf rfl HMD.out a rfl WA.out _ HFA.out ?_)
                        go_roundw
                        case rel => exact ⟨k + 1, by omega, by go_num, HD4.out⟩
                        case measure => simp [intOf]; omega
                      · obtain rfl : on = k := by omega
                        rw [mixA_all _ HOL.out] at hd
                        obtain ⟨hext, hbx, hog, hor, hoo, -, -⟩ := hd
                        have hz := HZ.out.ext ((X1.out.trans X12.out).trans hext)
                        have m0 := (hbx.cell 0).trans rfl; have m1 := (hbx.cell 1).trans rfl; have m2 := (hbx.cell 2).trans rfl; have m3 := (hbx.cell 3).trans rfl
                        have n0 := (hz.cell 0).trans rfl; have n1 := (hz.cell 1).trans rfl; have n2 := (hz.cell 2).trans rfl; have n3 := (hz.cell 3).trans rfl
                        simp only [List.getElem?_cons_zero, List.getElem?_cons_succ] at m0 m1 m2 m3 n0 n1 n2 n3
                        have fz := hz.free
                        have hzlt : (w.heap.size + 1) < w2.heap.size := (HZ.out.ext (X1.out.trans X12.out)).lt
                        have hne : b7 ≠ w.heap.size + 1 := by have := HB7.out; omega
                        obtain ⟨w9, hw9⟩ : ∃ w9, w9 = (((wr.setCell ⟨w.heap.size + 1, 0, none⟩ (I i)).setCell ⟨w.heap.size + 1, 1, none⟩ (.slice A dn c)).setCell ⟨w.heap.size + 1, 2, none⟩ (.slice A60 rn c60)).setCell ⟨w.heap.size + 1, 3, none⟩ (.slice A63 on c63) := ⟨_, rfl⟩
                        have hk9 : Box w9 (w.heap.size + 1) 26 [I i, .slice A dn c, .slice A60 rn c60, .slice A63 on c63] := by rw [hw9]; exact (((hz.set 0 (I i)).set 1 (.slice A dn c)).set 2 (.slice A60 rn c60)).set 3 (.slice A63 on c63)
                        have ar := hz.apart hor (by decide); have ao := hz.apart hoo (by decide)
                        have hr9 : w9.ownsRow w2.heap.size 78 2 (.slice A60 rn c60) rn (storeCs RR) := by rw [hw9]; exact own_set (own_set (own_set (own_set hor ar _ _) ar _ _) ar _ _) ar _ _
                        have ho9 : w9.ownsRow w2.heap.size 3 1 (.slice A63 on c63) on ((N.outs.map (valI (toM N))).map I) := by rw [hw9]; exact own_set (own_set (own_set (own_set hoo ao _ _) ao _ _) ao _ _) ao _ _
                        have hg9 : OwnG w9 w2.heap.size (.slice A dn c) GG vs := by
                          rw [hw9]
                          exact (((hog.box hz 0 (I i)).box (hz.set 0 (I i)) 1 (.slice A dn c)).box ((hz.set 0 (I i)).set 1 (.slice A dn c)) 2 (.slice A60 rn c60)).box (((hz.set 0 (I i)).set 1 (.slice A dn c)).set 2 (.slice A60 rn c60)) 3 (.slice A63 on c63)
                        have hx9 : Ext w w9 := by
                          have h0 : Ext w wr := ((HX.out.trans X1.out).trans X12.out).trans hext
                          rw [hw9]; exact (((h0.setCell (p := ⟨w.heap.size + 1, 0, none⟩) (Nat.le_succ _) _).setCell (p := ⟨w.heap.size + 1, 1, none⟩) (Nat.le_succ _) _).setCell (p := ⟨w.heap.size + 1, 2, none⟩) (Nat.le_succ _) _).setCell (p := ⟨w.heap.size + 1, 3, none⟩) (Nat.le_succ _) _
                        have hno : NetO w9 w2.heap.size i A dn c A60 rn c60 A63 on c63 (dropN N) vs := ⟨HIN.out, by rw [HHD.out, List.length_map]; exact HHL.out, by rw [← HGG.out]; exact hg9, by have := hr9; rw [HRR.out] at this; exact this, ho9⟩
                        have HNO := Lib.hid hno; have HX9 := Lib.hid hx9; have HK9 := Lib.hid hk9; have HW9 := Lib.hid hw9
                        clear hog hbx hor hoo hz hw9 hk9 ar ao hr9 ho9 hg9 hx9 hno hext hzlt
                        go_wp2
                        rw [← HW9.out]
                        refine bodyPost_ret (v := Pr (netV i A dn c A60 rn c60 A63 on c63) (I 0)) ?_ rfl ⟨i, A, dn, c, A60, rn, c60, A63, on, c63, vs, rfl, HNO.out.base_le (HX.out.trans (X1.out.trans X12.out)).size, HX9.out⟩
                        have q0 := (HK9.out.cell 0).trans rfl; have q1 := (HK9.out.cell 1).trans rfl; have q2 := (HK9.out.cell 2).trans rfl; have q3 := (HK9.out.cell 3).trans rfl
                        simp only [List.getElem?_cons_zero, List.getElem?_cons_succ] at q0 q1 q2 q3
                        clear HNO HX9 HK9 HW9 m0 m1 m2 m3 n0 n1 n2 n3 fz
                        simp [results, Try.results60, go_sem, q0, q1, q2, q3]
  · have hDR : dropR N = zeroN := by unfold dropR; rw [if_neg hc]
    rw [hDR]
    have hnz : (checkN N != 0) = true := by simpa using hc
    have hck := netCheck_any i GA gn gc RA rn rc OA on oc N W HN.out
    generalize checkN N = E at *
    have CK := Lib.hid hck
    clear hc hgl hrl hol hin hck hDR
    go_enter Try.func60, Try.ntmps60
    go_wp2_with fail
    rw [← HW.out]
    refine CK.out.mono ?_; rintro e w1 ⟨rfl, x1⟩
    have hz := HZ.out.ext x1
    have n0 := (hz.cell 0).trans rfl; have n1 := (hz.cell 1).trans rfl; have n2 := (hz.cell 2).trans rfl; have n3 := (hz.cell 3).trans rfl
    simp only [List.getElem?_cons_zero, List.getElem?_cons_succ] at n0 n1 n2 n3
    have fz := hz.free
    obtain ⟨w9, hw9⟩ : ∃ w9, w9 = (((w1.setCell ⟨w.heap.size + 1, 0, none⟩ (I 0)).setCell ⟨w.heap.size + 1, 1, none⟩ (.slice none 0 0)).setCell ⟨w.heap.size + 1, 2, none⟩ (.slice none 0 0)).setCell ⟨w.heap.size + 1, 3, none⟩ (.slice none 0 0) := ⟨_, rfl⟩
    have hk9 : Box w9 (w.heap.size + 1) 26 [I 0, .slice none 0 0, .slice none 0 0, .slice none 0 0] := by rw [hw9]; exact (((hz.set 0 (I 0)).set 1 (.slice none 0 0)).set 2 (.slice none 0 0)).set 3 (.slice none 0 0)
    have hx9 : Ext w w9 := by
      have h0 : Ext w w1 := HX.out.trans x1
      rw [hw9]; exact (((h0.setCell (p := ⟨w.heap.size + 1, 0, none⟩) (Nat.le_succ _) _).setCell (p := ⟨w.heap.size + 1, 1, none⟩) (Nat.le_succ _) _).setCell (p := ⟨w.heap.size + 1, 2, none⟩) (Nat.le_succ _) _).setCell (p := ⟨w.heap.size + 1, 3, none⟩) (Nat.le_succ _) _
    have HX9 := Lib.hid hx9; have HK9 := Lib.hid hk9; have HW9 := Lib.hid hw9
    clear hz hw9 hk9 hx9 x1 CK
    go_wp2
    rw [← HW9.out]
    refine bodyPost_ret (v := Pr (netV 0 none 0 0 none 0 0 none 0 0) (I E)) ?_ rfl ⟨0, none, 0, 0, none, 0, 0, none, 0, 0, [], rfl, NetO.zero _ _, HX9.out⟩
    have q0 := (HK9.out.cell 0).trans rfl; have q1 := (HK9.out.cell 1).trans rfl; have q2 := (HK9.out.cell 2).trans rfl; have q3 := (HK9.out.cell 3).trans rfl
    simp only [List.getElem?_cons_zero, List.getElem?_cons_succ] at q0 q1 q2 q3
    clear HX9 HK9 HW9 n0 n1 n2 n3 fz
    simp [results, Try.results60, go_sem, q0, q1, q2, q3]
end
end Go.Proofs.Ytjagbnaacfhokaa
/- Memory that is laid as literals, one block behind the other. No program in sight. -/
namespace Go.Proofs.Ytjagbnaacfhokaa
set_option linter.unusedVariables false
set_option linter.unusedSimpArgs false
open Go.RowKit

def allocs (w : World) (os : List Obj) : World := os.foldl World.alloc w
theorem allocs_snoc (w : World) (os : List Obj) (o : Obj) : allocs w (os ++ [o]) = (allocs w os).alloc o := by simp [allocs]
theorem allocs_size (os : List Obj) : ∀ w : World, (allocs w os).heap.size = w.heap.size + os.length := by
  induction os with
  | nil => intro w; rfl
  | cons o os ih => intro w; have := ih (w.alloc o); simp only [allocs, List.foldl_cons] at *; rw [this]; simp; omega
theorem allocs_ext (os : List Obj) : ∀ w : World, Ext w (allocs w os) := by
  induction os with
  | nil => intro w; exact Ext.refl w
  | cons o os ih => intro w; exact ((Ext.refl w).alloc o).trans (ih (w.alloc o))
theorem allocs_heap (os : List Obj) : ∀ (w : World) (j : Nat), (allocs w os).heap[w.heap.size + j]? = os[j]? := by
  induction os with
  | nil => intro w j; show w.heap[w.heap.size + j]? = _; rw [Array.getElem?_eq_none (by omega)]; rfl
  | cons o os ih =>
    intro w j
    have hs : (w.alloc o).heap.size = w.heap.size + 1 := World.size_alloc ..
    cases j with
    | zero =>
      have hb : (allocs (w.alloc o) os).heap[w.heap.size]? = (w.alloc o).heap[w.heap.size]? := (allocs_ext os (w.alloc o)).block w.heap.size (by omega)
      show (allocs (w.alloc o) os).heap[w.heap.size]? = some o
      rw [hb]; exact heap_alloc_new w o
    | succ j =>
      have := ih (w.alloc o) j
      rw [hs] at this
      show (allocs (w.alloc o) os).heap[w.heap.size + (j + 1)]? = os[j]?
      rw [← this]; congr 1; omega
theorem allocs_cell {w : World} {os : List Obj} {j : Nat} {cs : Array Value} {T : TypeId} {fr : Nat × Nat} (h : os[j]? = some (.cells cs T fr)) (off : Nat) : (allocs w os).cell? ⟨w.heap.size + j, off, none⟩ = cs[off]? := by
  have := allocs_heap os w j
  rw [h] at this
  exact cell_of_row _ _ _ _ _ _ this
theorem allocs_free {w : World} {os : List Obj} {j : Nat} {cs : Array Value} {T : TypeId} (h : os[j]? = some (.cells cs T)) (off : Nat) : (allocs w os).frozen? ⟨w.heap.size + j, off, none⟩ = false := by
  have := allocs_heap os w j
  rw [h] at this
  exact frozen_of_row _ _ _ _ _ this
theorem push_modify {α : Type} (a : Array α) (x : α) (i : Nat) (f : α → α) : (a.push x).modify i f = if i = a.size then a.push (f x) else (a.modify i f).push x := by
  apply Array.ext_getElem?
  intro j
  by_cases e : i = a.size
  · subst e
    rw [if_pos rfl]
    simp only [Array.getElem?_modify, Array.getElem?_push]
    by_cases h : j = a.size
    · subst h; simp
    · have : ¬ a.size = j := fun q => h q.symm
      simp [h, this]
  · rw [if_neg e]
    simp only [Array.getElem?_modify, Array.getElem?_push, Array.size_modify]
    by_cases h : j = a.size
    · subst h; simp [e]
    · simp [h]
theorem alloc_set (w : World) (o : Obj) (m off : Nat) (v : Value) (hm : m < w.heap.size) : (w.alloc o).setCell ⟨m, off, none⟩ v = (w.setCell ⟨m, off, none⟩ v).alloc o := by
  unfold World.setCell World.alloc
  dsimp only
  rw [push_modify, if_neg (by omega)]
theorem allocs_set {w : World} {os : List Obj} {j : Nat} {cs : Array Value} {T : TypeId} {fr : Nat × Nat} (h : os[j]? = some (.cells cs T fr)) (off : Nat) (v : Value) :
    ∀ {m : Nat}, m = w.heap.size + j → (allocs w os).setCell ⟨m, off, none⟩ v = allocs w (os.set j (.cells (cs.setIfInBounds off v) T fr)) := by
  induction os generalizing w j with
  | nil => simp at h
  | cons o os ih =>
    intro m hm
    have hs : (w.alloc o).heap.size = w.heap.size + 1 := World.size_alloc ..
    have gen : ∀ (os : List Obj) (a b : World), a = b → allocs a os = allocs b os := fun os a b e => by rw [e]
    cases j with
    | zero =>
      simp at h
      subst h
      have hset : ∀ (os : List Obj) (W : World), m < W.heap.size → (allocs W os).setCell ⟨m, off, none⟩ v = allocs (W.setCell ⟨m, off, none⟩ v) os := by
        intro os
        induction os with
        | nil => intro W _; rfl
        | cons o' os ih2 =>
          intro W hW
          have := ih2 (W.alloc o') (by rw [World.size_alloc]; omega)
          show (allocs (W.alloc o') os).setCell _ _ = allocs ((W.setCell ⟨m, off, none⟩ v).alloc o') os
          rw [this, alloc_set _ _ _ _ _ hW]
      show (allocs (w.alloc (.cells cs T fr)) os).setCell ⟨m, off, none⟩ v = allocs (w.alloc (.cells (cs.setIfInBounds off v) T fr)) os
      rw [hset os _ (by rw [hs]; omega)]
      congr 1
      subst hm
      unfold World.setCell World.alloc
      dsimp only
      rw [push_modify, if_pos (by simp)]; rfl
    | succ j =>
      show (allocs (w.alloc o) os).setCell ⟨m, off, none⟩ v = allocs (w.alloc o) (os.set j _)
      exact ih (w := w.alloc o) (j := j) (by simpa using h) (by rw [hs]; omega)
theorem Sl.lit {w : World} {os : List Obj} {j : Nat} {cs : List Value} {T : TypeId} {fr : Nat × Nat} (h : os[j]? = some (.cells cs.toArray T fr)) {m : Nat} (hm : m = w.heap.size + j) : Sl (allocs w os) (some ⟨m, 0, none⟩) cs.length cs :=
  ⟨rfl, fun k u hu => ⟨m, 0, rfl, by subst hm; rw [allocs_cell h, Nat.zero_add]; simpa using hu⟩⟩
end Go.Proofs.Ytjagbnaacfhokaa
