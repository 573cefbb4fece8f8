/- The body of WalkTells, from the contracts. -/
import Derived.Test.YtejpnbomlnifkaaWalkLaws
namespace Go.Proofs.Ytejpnbomlnifkaa
set_option linter.unusedVariables false
set_option linter.unusedSimpArgs false
open Go.RowKit

set_option maxRecDepth 100000 in
set_option maxHeartbeats 4000000 in
theorem walkTells_walk (PA : Option Addr) (n pc : Nat) (p : List PNode) (fr : Bool) (WA : Option Addr) (wn wc : Nat) (OA : Option Addr) (on oc : Nat) (r : RestM) (w : World)
    (hp : SlN w PA n p) (hr : RestC w fr WA wn wc OA on oc r) (hn : n ≤ maxLen) :
    Calls Try.prog 4 #[.slice PA n pc, restV fr WA wn wc OA on oc] w fun e w' => e = .returned (.bool true) ∧ Ext w w' := by
  generalize hCR : checkR p r = CR
  have CRE := Lib.hid hCR; clear hCR
  obtain ⟨W, hW⟩ : ∃ W, W = w.alloc (.cells #[Bv fr, .slice WA wn wc, .slice OA on oc] 39) := ⟨_, rfl⟩
  have hxW : Ext w W := by rw [hW]; exact (Ext.refl _).alloc _
  have hb0 : RBox W w.heap.size fr WA wn wc OA on oc r := by rw [hW]; exact RBox.new hr
  have hpl := hp.1
  have HP0 := Lib.hid (hp.keep hxW.keeps); have HB := Lib.hid hb0; have HW := Lib.hid hW; have HX0 := Lib.hid hxW; have HPL := Lib.hid hpl
  clear hp hr hW hxW hb0 hpl
  generalize hMM : beginM p = MM
  have HM := Lib.hid hMM
  have hmx : MM.2 = checkP p := by rw [← hMM]; unfold beginM; split <;> simp_all
  have HMX := Lib.hid hmx; clear hMM hmx
  generalize hM : MM.1 = M
  generalize hMX : MM.2 = MX at HMX
  have H1 := Lib.hid hM; have H2 := Lib.hid hMX; clear hM hMX
  by_cases h0 : checkP p = 0
  · have E0 : MX = 0 := by rw [HMX.out, h0]
    have hm : M = freshM n := by rw [← H1.out, ← HM.out]; unfold beginM; rw [if_neg (by simp [h0]), HPL.out]
    have hn14 : n ≤ 14 := by have := (checkP_ok h0).1; have := HPL.out; omega
    have HMF := Lib.hid hm; clear hm h0
    go_enter Try.func4, Try.ntmps4
    go_wp2_with fail
    rw [← HW.out]
    refine (walkBegin_any PA n pc p W HP0.out hn).mono ?_; rintro e w1 ⟨fr1, WA1, wn1, wc1, OA1, on1, oc1, rfl, hr1, -, -, x1⟩; rw [HM.out, H1.out] at hr1; rw [HM.out, H2.out]
    have HR1 := Lib.hid hr1; have X1 := Lib.hid x1; clear hr1 x1
    go_wp2_with fail
    have hb1 : RBox (w1.alloc (.cells #[Bv fr1, .slice WA1 wn1 wc1, .slice OA1 on1 oc1] 39)) w1.heap.size fr1 WA1 wn1 wc1 OA1 on1 oc1 M := RBox.new HR1.out
    have x2 := X1.out.alloc (.cells #[Bv fr1, .slice WA1 wn1 wc1, .slice OA1 on1 oc1] 39)
    have HB1' := Lib.hid hb1; have X2 := Lib.hid x2; clear hb1 x2 HR1
    generalize w1.alloc (.cells #[Bv fr1, .slice WA1 wn1 wc1, .slice OA1 on1 oc1] 39) = W2 at *
    generalize w1.heap.size = b1 at *
    refine (rcheck_any' PA n pc p W2 (HP0.out.keep X2.out.keeps) hn).mono ?_; rintro e w3 ⟨rfl, rfl⟩; rw [← HMX.out]
    subst E0
    have bl := Blank.new W2
    have BL := Lib.hid bl; clear bl
    go_wp2_with fail
    have x3 : Ext W2 (W2.alloc (.cells #[.bool false, .slice none 0 0, .slice none 0 0] 39)) := (Ext.refl _).alloc _
    have X3 := Lib.hid x3; clear x3
    generalize W2.alloc (.cells #[.bool false, .slice none 0 0, .slice none 0 0] 39) = W3 at *
    generalize hb2 : W2.heap.size = b2 at *
    have HB2E := Lib.hid hb2; clear hb2
    refine (rfresh_any PA n pc W3 hn14).mono ?_; rintro e w4 ⟨g1, g2, rfl, hg1, hg2, -, hw1, hw2, x4⟩
    obtain ⟨A1, k1, ha1, hc1, hc1', hs1⟩ := own_sl hw1
    obtain ⟨A2, k2, ha2, hc2, hc2', hs2⟩ := own_sl hw2
    injection ha1 with ha1 _ hk1; subst ha1; subst hk1
    injection ha2 with ha2 _ hk2; subst ha2; subst hk2
    have hr2 : RestC w4 true (some ⟨g1, 0, none⟩) n n (some ⟨g2, 0, none⟩) 3 3 M := by rw [HMF.out]; exact ⟨rfl, hs1, hs2, ⟨hc1, hc1'⟩, ⟨hc2, hc2'⟩⟩
    have bl4 := BL.out.keep x4
    have hne1 : b2 ≠ g1 := Nat.ne_of_lt (Nat.lt_of_lt_of_le BL.out.lt hg1)
    have hne2 : b2 ≠ g2 := Nat.ne_of_lt (Nat.lt_of_lt_of_le BL.out.lt hg2)
    have hh := Held.stored bl4 hr2 (fun a h => by injection h with h; rw [← h]; exact hne1) (fun a h => by injection h with h; rw [← h]; exact hne2)
    have HH := Lib.hid hh
    have hb2 : W2.heap.size ≤ b2 := Nat.le_of_eq HB2E.out
    have x5 : Ext W2 (((w4.setCell ⟨b2, 0, none⟩ (Bv true)).setCell ⟨b2, 1, none⟩ (.slice (some ⟨g1, 0, none⟩) n n)).setCell ⟨b2, 2, none⟩ (.slice (some ⟨g2, 0, none⟩) 3 3)) :=
      (((X3.out.trans x4).setCell hb2 _).setCell hb2 _).setCell hb2 _
    have X5 := Lib.hid x5
    have z0 := bl4.c0; have z1 := bl4.c1; have z2 := bl4.c2; have zf := bl4.fr
    clear hh hr2 bl4 x4 x5 hw1 hw2 hs1 hs2 hc1 hc1' hc2 hc2' hg1 hg2 hne1 hne2 hb2
    go_wp2_with fail
    clear z0 z1 z2 zf
    obtain ⟨fr2, WA2, wn2, wc2, OA2, on2, oc2, hB2⟩ := HH.out
    have HB2 := Lib.hid hB2
    have hB0 := (HB.out.keep X2.out).keep X5.out; have hB1 := HB1'.out.keep X5.out
    have HB0 := Lib.hid hB0; have HB1 := Lib.hid hB1
    have hp6 := (HP0.out.keep X2.out.keeps).keep X5.out.keeps
    have HP := Lib.hid hp6
    have hx6 := (HX0.out.trans X2.out).trans X5.out
    have HX := Lib.hid hx6
    clear hB0 hB1 hB2 hp6 hx6 HH X5 HB HB1' HP0 BL X3 X2 X1 HX0
    generalize ((w4.setCell ⟨b2, 0, none⟩ (Bv true)).setCell ⟨b2, 1, none⟩ (.slice (some ⟨g1, 0, none⟩) n n)).setCell ⟨b2, 2, none⟩ (.slice (some ⟨g2, 0, none⟩) 3 3) = W6 at *
    generalize hb0 : w.heap.size = b0 at *
    clear hb0 HW
    have HQ := HB0.out; have k00 := HQ.c0; have k01 := HQ.c1; have k02 := HQ.c2
    have HQ1 := HB1.out; have k10 := HQ1.c0; have k11 := HQ1.c1; have k12 := HQ1.c2
    have HQ2 := HB2.out; have k20 := HQ2.c0; have k21 := HQ2.c1; have k22 := HQ2.c2
    have Cb00 := Lib.hid k00; have Cb01 := Lib.hid k01; have Cb02 := Lib.hid k02
    have Cb10 := Lib.hid k10; have Cb11 := Lib.hid k11; have Cb12 := Lib.hid k12
    have Cb20 := Lib.hid k20; have Cb21 := Lib.hid k21; have Cb22 := Lib.hid k22
    clear HQ HQ1 HQ2 k00 k01 k02 k10 k11 k12 k20 k21 k22
    refine wp_flow2 [isV (.bool true), isV (.bool true), isV (.slice PA n pc), isV (.agg #[.bool fr, .slice WA wn wc, .slice OA on oc]), isV (.int .i64 CR), isV (.slice PA n pc), isV (.agg #[.bool fr, .slice WA wn wc, .slice OA on oc]), isV (.int .i64 CR), isV (.bool true), isV (.bool true), isV (.bool true), isV (.agg #[.bool fr1, .slice WA1 wn1 wc1, .slice OA1 on1 oc1]), isV (.agg #[.bool fr2, .slice WA2 wn2 wc2, .slice OA2 on2 oc2]), isV (.bool true), isV (.bool true), isV (.bool true), isV (.int .i64 0), isV (.int .i64 0), isV (.bool true), isV (.bool true), isV (.bool true)] (by kernel_rfl) (by kernel_rfl) ⟨isV_mono, isV_mono, isV_mono, isV_mono, isV_mono, isV_mono, isV_mono, isV_mono, isV_mono, isV_mono, isV_mono, isV_mono, isV_mono, isV_mono, isV_mono, isV_mono, isV_mono, isV_mono, isV_mono, isV_mono, isV_mono, trivial⟩ ?each ?last
    case each =>
      refine .cons ?_ (.cons ?_ (.cons ?_ (.cons ?_ (.cons ?_ (.cons ?_ (.cons ?_ (.cons ?_ (.cons ?_ (.cons ?_ (.cons ?_ (.cons ?_ (.cons ?_ (.cons ?_ (.cons ?_ (.cons ?_ (.cons ?_ (.cons ?_ (.cons ?_ (.cons ?_ (.cons ?_ (.nil)))))))))))))))))))))
      · intro a w hx hs hb
        refine .inl ⟨wanted_free rfl, fun K hK => ?_⟩
        clear hs hb
        go_simp
        refine (walkBegun_any _).mono ?_
        rintro e w' ⟨rfl, xq⟩
        exact hK _ _ rfl xq
      · intro a w hx hs hb
        obtain ⟨_, s20, rfl⟩ := hs 0 20 (by kernel_rfl) (by kernel_rfl)
        refine .inl ⟨wanted_free rfl, fun K hK => ?_⟩
        clear hs hb hx
        go_simp
        exact hK _ _ rfl (Ext.refl _)
      · intro a w hx hs hb
        obtain ⟨_, s21, rfl⟩ := hs 1 21 (by kernel_rfl) (by kernel_rfl)
        have s0 : a.tmps[(0 : Nat)]? = some (.slice PA n pc) := (hb 0 (by kernel_rfl)).trans (by rfl)
        refine .inl ⟨wanted_yes 1 true 21 rfl (by kernel_rfl) s21, fun K hK => ?_⟩
        clear hs hb hx
        go_simp
        exact hK _ _ rfl (Ext.refl _)
      · intro a w hx hs hb
        obtain ⟨_, s21, rfl⟩ := hs 1 21 (by kernel_rfl) (by kernel_rfl)
        have s3 : a.tmps[(3 : Nat)]? = some (.pointer (some ⟨b0, 0, none⟩)) := (hb 3 (by kernel_rfl)).trans (by rfl)
        have c0 := hx.keeps _ _ Cb00.out
        have c1 := hx.keeps _ _ Cb01.out
        have c2 := hx.keeps _ _ Cb02.out
        refine .inl ⟨wanted_yes 1 true 21 rfl (by kernel_rfl) s21, fun K hK => ?_⟩
        clear hs hb hx
        go_simp
        exact hK _ _ rfl (Ext.refl _)
      · intro a w hx hs hb
        obtain ⟨_, s21, rfl⟩ := hs 1 21 (by kernel_rfl) (by kernel_rfl)
        obtain ⟨_, s22, rfl⟩ := hs 2 22 (by kernel_rfl) (by kernel_rfl)
        obtain ⟨_, s23, rfl⟩ := hs 3 23 (by kernel_rfl) (by kernel_rfl)
        refine .inl ⟨wanted_yes 1 true 21 rfl (by kernel_rfl) s21, fun K hK => ?_⟩
        clear hs hb
        go_simp
        refine (walkCheck_any PA n pc p fr WA wn wc OA on oc r _ (HP.out.keep hx.keeps) (HB0.out.keep hx).rest hn).mono ?_
        rintro e w' ⟨rfl, xq⟩; rw [CRE.out]
        exact hK _ _ rfl xq
      · intro a w hx hs hb
        obtain ⟨_, s21, rfl⟩ := hs 1 21 (by kernel_rfl) (by kernel_rfl)
        have s0 : a.tmps[(0 : Nat)]? = some (.slice PA n pc) := (hb 0 (by kernel_rfl)).trans (by rfl)
        refine .inl ⟨wanted_yes 1 true 21 rfl (by kernel_rfl) s21, fun K hK => ?_⟩
        clear hs hb hx
        go_simp
        exact hK _ _ rfl (Ext.refl _)
      · intro a w hx hs hb
        obtain ⟨_, s21, rfl⟩ := hs 1 21 (by kernel_rfl) (by kernel_rfl)
        have s3 : a.tmps[(3 : Nat)]? = some (.pointer (some ⟨b0, 0, none⟩)) := (hb 3 (by kernel_rfl)).trans (by rfl)
        have c0 := hx.keeps _ _ Cb00.out
        have c1 := hx.keeps _ _ Cb01.out
        have c2 := hx.keeps _ _ Cb02.out
        refine .inl ⟨wanted_yes 1 true 21 rfl (by kernel_rfl) s21, fun K hK => ?_⟩
        clear hs hb hx
        go_simp
        exact hK _ _ rfl (Ext.refl _)
      · intro a w hx hs hb
        obtain ⟨_, s21, rfl⟩ := hs 1 21 (by kernel_rfl) (by kernel_rfl)
        obtain ⟨_, s25, rfl⟩ := hs 5 25 (by kernel_rfl) (by kernel_rfl)
        obtain ⟨_, s26, rfl⟩ := hs 6 26 (by kernel_rfl) (by kernel_rfl)
        refine .inl ⟨wanted_yes 1 true 21 rfl (by kernel_rfl) s21, fun K hK => ?_⟩
        clear hs hb
        go_simp
        refine (rCheckRest_any PA n pc p fr WA wn wc OA on oc r _ (HP.out.keep hx.keeps) (HB0.out.keep hx).rest hn).mono ?_
        rintro e w' ⟨rfl, xq⟩; rw [CRE.out]
        exact hK _ _ rfl xq
      · intro a w hx hs hb
        obtain ⟨_, s21, rfl⟩ := hs 1 21 (by kernel_rfl) (by kernel_rfl)
        obtain ⟨_, s24, rfl⟩ := hs 4 24 (by kernel_rfl) (by kernel_rfl)
        obtain ⟨_, s27, rfl⟩ := hs 7 27 (by kernel_rfl) (by kernel_rfl)
        refine .inl ⟨wanted_yes 1 true 21 rfl (by kernel_rfl) s21, fun K hK => ?_⟩
        clear hs hb hx
        go_simp
        exact hK _ _ rfl (Ext.refl _)
      · intro a w hx hs hb
        obtain ⟨_, s21, rfl⟩ := hs 1 21 (by kernel_rfl) (by kernel_rfl)
        obtain ⟨_, s28, rfl⟩ := hs 8 28 (by kernel_rfl) (by kernel_rfl)
        refine .inl ⟨wanted_free rfl, fun K hK => ?_⟩
        clear hs hb hx
        go_simp
        exact hK _ _ rfl (Ext.refl _)
      · intro a w hx hs hb
        obtain ⟨_, s29, rfl⟩ := hs 9 29 (by kernel_rfl) (by kernel_rfl)
        refine .inl ⟨wanted_free rfl, fun K hK => ?_⟩
        clear hs hb hx
        go_simp
        exact hK _ _ rfl (Ext.refl _)
      · intro a w hx hs hb
        obtain ⟨_, s30, rfl⟩ := hs 10 30 (by kernel_rfl) (by kernel_rfl)
        have s5 : a.tmps[(5 : Nat)]? = some (.pointer (some ⟨b1, 0, none⟩)) := (hb 5 (by kernel_rfl)).trans (by rfl)
        have c0 := hx.keeps _ _ Cb10.out
        have c1 := hx.keeps _ _ Cb11.out
        have c2 := hx.keeps _ _ Cb12.out
        refine .inl ⟨wanted_yes 10 true 30 rfl (by kernel_rfl) s30, fun K hK => ?_⟩
        clear hs hb hx
        go_simp
        exact hK _ _ rfl (Ext.refl _)
      · intro a w hx hs hb
        obtain ⟨_, s30, rfl⟩ := hs 10 30 (by kernel_rfl) (by kernel_rfl)
        have s8 : a.tmps[(8 : Nat)]? = some (.pointer (some ⟨b2, 0, none⟩)) := (hb 8 (by kernel_rfl)).trans (by rfl)
        have c0 := hx.keeps _ _ Cb20.out
        have c1 := hx.keeps _ _ Cb21.out
        have c2 := hx.keeps _ _ Cb22.out
        refine .inl ⟨wanted_yes 10 true 30 rfl (by kernel_rfl) s30, fun K hK => ?_⟩
        clear hs hb hx
        go_simp
        exact hK _ _ rfl (Ext.refl _)
      · intro a w hx hs hb
        obtain ⟨_, s30, rfl⟩ := hs 10 30 (by kernel_rfl) (by kernel_rfl)
        obtain ⟨_, s31, rfl⟩ := hs 11 31 (by kernel_rfl) (by kernel_rfl)
        obtain ⟨_, s32, rfl⟩ := hs 12 32 (by kernel_rfl) (by kernel_rfl)
        refine .inl ⟨wanted_yes 10 true 30 rfl (by kernel_rfl) s30, fun K hK => ?_⟩
        clear hs hb
        go_simp
        refine (sameRests_any fr1 WA1 wn1 wc1 OA1 on1 oc1 M fr2 WA2 wn2 wc2 OA2 on2 oc2 M _ (HB1.out.keep hx).rest (HB2.out.keep hx).rest).mono ?_
        rintro e w' ⟨rfl, xq⟩; rw [sameR_self]
        exact hK _ _ rfl xq
      · intro a w hx hs hb
        obtain ⟨_, s30, rfl⟩ := hs 10 30 (by kernel_rfl) (by kernel_rfl)
        obtain ⟨_, s33, rfl⟩ := hs 13 33 (by kernel_rfl) (by kernel_rfl)
        refine .inl ⟨wanted_free rfl, fun K hK => ?_⟩
        clear hs hb hx
        go_simp
        exact hK _ _ rfl (Ext.refl _)
      · intro a w hx hs hb
        obtain ⟨_, s34, rfl⟩ := hs 14 34 (by kernel_rfl) (by kernel_rfl)
        refine .inl ⟨wanted_free rfl, fun K hK => ?_⟩
        clear hs hb hx
        go_simp
        exact hK _ _ rfl (Ext.refl _)
      · intro a w hx hs hb
        obtain ⟨_, s35, rfl⟩ := hs 15 35 (by kernel_rfl) (by kernel_rfl)
        have s6 : a.tmps[(6 : Nat)]? = some (.int .i64 0) := (hb 6 (by kernel_rfl)).trans (by rfl)
        refine .inl ⟨wanted_yes 15 true 35 rfl (by kernel_rfl) s35, fun K hK => ?_⟩
        clear hs hb hx
        go_simp
        exact hK _ _ rfl (Ext.refl _)
      · intro a w hx hs hb
        obtain ⟨_, s35, rfl⟩ := hs 15 35 (by kernel_rfl) (by kernel_rfl)
        have s7 : a.tmps[(7 : Nat)]? = some (.int .i64 0) := (hb 7 (by kernel_rfl)).trans (by rfl)
        refine .inl ⟨wanted_yes 15 true 35 rfl (by kernel_rfl) s35, fun K hK => ?_⟩
        clear hs hb hx
        go_simp
        exact hK _ _ rfl (Ext.refl _)
      · intro a w hx hs hb
        obtain ⟨_, s35, rfl⟩ := hs 15 35 (by kernel_rfl) (by kernel_rfl)
        obtain ⟨_, s36, rfl⟩ := hs 16 36 (by kernel_rfl) (by kernel_rfl)
        obtain ⟨_, s37, rfl⟩ := hs 17 37 (by kernel_rfl) (by kernel_rfl)
        refine .inl ⟨wanted_yes 15 true 35 rfl (by kernel_rfl) s35, fun K hK => ?_⟩
        clear hs hb hx
        go_simp
        exact hK _ _ rfl (Ext.refl _)
      · intro a w hx hs hb
        obtain ⟨_, s35, rfl⟩ := hs 15 35 (by kernel_rfl) (by kernel_rfl)
        obtain ⟨_, s38, rfl⟩ := hs 18 38 (by kernel_rfl) (by kernel_rfl)
        refine .inl ⟨wanted_free rfl, fun K hK => ?_⟩
        clear hs hb hx
        go_simp
        exact hK _ _ rfl (Ext.refl _)
      · intro a w hx hs hb
        obtain ⟨_, s39, rfl⟩ := hs 19 39 (by kernel_rfl) (by kernel_rfl)
        refine .inl ⟨wanted_free rfl, fun K hK => ?_⟩
        clear hs hb hx
        go_simp
        exact hK _ _ rfl (Ext.refl _)
    case last =>
      intro a w hx hsz hdf hs hb
      obtain ⟨_, s4, rfl⟩ := hs 20 4 (by kernel_rfl)
      have hx2 := HX.out.trans hx
      have hd : a.defers = [] := hdf
      clear hs hb hx hdf
      go_wp2
      exact bodyPost_ret (v := .bool true) (by simp [results, Try.results4, go_sem, s4]) hd ⟨rfl, hx2⟩
  · have hne : ¬ MX = 0 := by rw [HMX.out]; exact h0
    have hm : M = zeroR := by rw [← H1.out, ← HM.out]; unfold beginM; rw [if_pos h0]
    have HMF := Lib.hid hm; have HNE := Lib.hid hne; clear hm h0 hne
    go_enter Try.func4, Try.ntmps4
    go_wp2_with fail
    rw [← HW.out]
    refine (walkBegin_any PA n pc p W HP0.out hn).mono ?_; rintro e w1 ⟨fr1, WA1, wn1, wc1, OA1, on1, oc1, rfl, hr1, -, -, x1⟩; rw [HM.out, H1.out] at hr1; rw [HM.out, H2.out]
    have HR1 := Lib.hid hr1; have X1 := Lib.hid x1; clear hr1 x1
    go_wp2_with fail
    have hb1 : RBox (w1.alloc (.cells #[Bv fr1, .slice WA1 wn1 wc1, .slice OA1 on1 oc1] 39)) w1.heap.size fr1 WA1 wn1 wc1 OA1 on1 oc1 M := RBox.new HR1.out
    have x2 := X1.out.alloc (.cells #[Bv fr1, .slice WA1 wn1 wc1, .slice OA1 on1 oc1] 39)
    have HB1' := Lib.hid hb1; have X2 := Lib.hid x2; clear hb1 x2 HR1
    generalize w1.alloc (.cells #[Bv fr1, .slice WA1 wn1 wc1, .slice OA1 on1 oc1] 39) = W2 at *
    generalize w1.heap.size = b1 at *
    refine (rcheck_any' PA n pc p W2 (HP0.out.keep X2.out.keeps) hn).mono ?_; rintro e w3 ⟨rfl, rfl⟩; rw [← HMX.out]
    have hne := HNE.out
    go_wp2_with fail
    have hb2 : RBox (W2.alloc (.cells #[.bool false, .slice none 0 0, .slice none 0 0] 39)) W2.heap.size false none 0 0 none 0 0 M := by rw [HMF.out]; exact RBox.new (RestC.zero _)
    have x3 : Ext W2 (W2.alloc (.cells #[.bool false, .slice none 0 0, .slice none 0 0] 39)) := (Ext.refl _).alloc _
    have HB2' := Lib.hid hb2; have X5 := Lib.hid x3; clear hb2 x3 hne
    generalize W2.alloc (.cells #[.bool false, .slice none 0 0, .slice none 0 0] 39) = W6 at *
    generalize W2.heap.size = b2 at *
    obtain ⟨fr2, WA2, wn2, wc2, OA2, on2, oc2, hB2⟩ : Held W6 b2 M := ⟨_, _, _, _, _, _, _, HB2'.out⟩
    have HB2 := Lib.hid hB2
    have hB0 := (HB.out.keep X2.out).keep X5.out; have hB1 := HB1'.out.keep X5.out
    have HB0 := Lib.hid hB0; have HB1 := Lib.hid hB1
    have hp6 := (HP0.out.keep X2.out.keeps).keep X5.out.keeps
    have HP := Lib.hid hp6
    have hx6 := (HX0.out.trans X2.out).trans X5.out
    have HX := Lib.hid hx6
    clear hB0 hB1 hB2 hp6 hx6 X5 HB HB1' HP0 X2 X1 HX0 HB2'
    generalize hb0 : w.heap.size = b0 at *
    clear hb0 HW
    have HQ := HB0.out; have k00 := HQ.c0; have k01 := HQ.c1; have k02 := HQ.c2
    have HQ1 := HB1.out; have k10 := HQ1.c0; have k11 := HQ1.c1; have k12 := HQ1.c2
    have HQ2 := HB2.out; have k20 := HQ2.c0; have k21 := HQ2.c1; have k22 := HQ2.c2
    have Cb00 := Lib.hid k00; have Cb01 := Lib.hid k01; have Cb02 := Lib.hid k02
    have Cb10 := Lib.hid k10; have Cb11 := Lib.hid k11; have Cb12 := Lib.hid k12
    have Cb20 := Lib.hid k20; have Cb21 := Lib.hid k21; have Cb22 := Lib.hid k22
    clear HQ HQ1 HQ2 k00 k01 k02 k10 k11 k12 k20 k21 k22
    refine wp_flow2 [isV (.bool true), isV (.bool true), isV (.slice PA n pc), isV (.agg #[.bool fr, .slice WA wn wc, .slice OA on oc]), isV (.int .i64 CR), isV (.slice PA n pc), isV (.agg #[.bool fr, .slice WA wn wc, .slice OA on oc]), isV (.int .i64 CR), isV (.bool true), isV (.bool true), isV (.bool true), isV (.agg #[.bool fr1, .slice WA1 wn1 wc1, .slice OA1 on1 oc1]), isV (.agg #[.bool fr2, .slice WA2 wn2 wc2, .slice OA2 on2 oc2]), isV (.bool true), isV (.bool true), isV (.bool true), isV (.int .i64 MX), isV (.int .i64 MX), isV (.bool true), isV (.bool true), isV (.bool true)] (by kernel_rfl) (by kernel_rfl) ⟨isV_mono, isV_mono, isV_mono, isV_mono, isV_mono, isV_mono, isV_mono, isV_mono, isV_mono, isV_mono, isV_mono, isV_mono, isV_mono, isV_mono, isV_mono, isV_mono, isV_mono, isV_mono, isV_mono, isV_mono, isV_mono, trivial⟩ ?each ?last
    case each =>
      refine .cons ?_ (.cons ?_ (.cons ?_ (.cons ?_ (.cons ?_ (.cons ?_ (.cons ?_ (.cons ?_ (.cons ?_ (.cons ?_ (.cons ?_ (.cons ?_ (.cons ?_ (.cons ?_ (.cons ?_ (.cons ?_ (.cons ?_ (.cons ?_ (.cons ?_ (.cons ?_ (.cons ?_ (.nil)))))))))))))))))))))
      · intro a w hx hs hb
        refine .inl ⟨wanted_free rfl, fun K hK => ?_⟩
        clear hs hb
        go_simp
        refine (walkBegun_any _).mono ?_
        rintro e w' ⟨rfl, xq⟩
        exact hK _ _ rfl xq
      · intro a w hx hs hb
        obtain ⟨_, s20, rfl⟩ := hs 0 20 (by kernel_rfl) (by kernel_rfl)
        refine .inl ⟨wanted_free rfl, fun K hK => ?_⟩
        clear hs hb hx
        go_simp
        exact hK _ _ rfl (Ext.refl _)
      · intro a w hx hs hb
        obtain ⟨_, s21, rfl⟩ := hs 1 21 (by kernel_rfl) (by kernel_rfl)
        have s0 : a.tmps[(0 : Nat)]? = some (.slice PA n pc) := (hb 0 (by kernel_rfl)).trans (by rfl)
        refine .inl ⟨wanted_yes 1 true 21 rfl (by kernel_rfl) s21, fun K hK => ?_⟩
        clear hs hb hx
        go_simp
        exact hK _ _ rfl (Ext.refl _)
      · intro a w hx hs hb
        obtain ⟨_, s21, rfl⟩ := hs 1 21 (by kernel_rfl) (by kernel_rfl)
        have s3 : a.tmps[(3 : Nat)]? = some (.pointer (some ⟨b0, 0, none⟩)) := (hb 3 (by kernel_rfl)).trans (by rfl)
        have c0 := hx.keeps _ _ Cb00.out
        have c1 := hx.keeps _ _ Cb01.out
        have c2 := hx.keeps _ _ Cb02.out
        refine .inl ⟨wanted_yes 1 true 21 rfl (by kernel_rfl) s21, fun K hK => ?_⟩
        clear hs hb hx
        go_simp
        exact hK _ _ rfl (Ext.refl _)
      · intro a w hx hs hb
        obtain ⟨_, s21, rfl⟩ := hs 1 21 (by kernel_rfl) (by kernel_rfl)
        obtain ⟨_, s22, rfl⟩ := hs 2 22 (by kernel_rfl) (by kernel_rfl)
        obtain ⟨_, s23, rfl⟩ := hs 3 23 (by kernel_rfl) (by kernel_rfl)
        refine .inl ⟨wanted_yes 1 true 21 rfl (by kernel_rfl) s21, fun K hK => ?_⟩
        clear hs hb
        go_simp
        refine (walkCheck_any PA n pc p fr WA wn wc OA on oc r _ (HP.out.keep hx.keeps) (HB0.out.keep hx).rest hn).mono ?_
        rintro e w' ⟨rfl, xq⟩; rw [CRE.out]
        exact hK _ _ rfl xq
      · intro a w hx hs hb
        obtain ⟨_, s21, rfl⟩ := hs 1 21 (by kernel_rfl) (by kernel_rfl)
        have s0 : a.tmps[(0 : Nat)]? = some (.slice PA n pc) := (hb 0 (by kernel_rfl)).trans (by rfl)
        refine .inl ⟨wanted_yes 1 true 21 rfl (by kernel_rfl) s21, fun K hK => ?_⟩
        clear hs hb hx
        go_simp
        exact hK _ _ rfl (Ext.refl _)
      · intro a w hx hs hb
        obtain ⟨_, s21, rfl⟩ := hs 1 21 (by kernel_rfl) (by kernel_rfl)
        have s3 : a.tmps[(3 : Nat)]? = some (.pointer (some ⟨b0, 0, none⟩)) := (hb 3 (by kernel_rfl)).trans (by rfl)
        have c0 := hx.keeps _ _ Cb00.out
        have c1 := hx.keeps _ _ Cb01.out
        have c2 := hx.keeps _ _ Cb02.out
        refine .inl ⟨wanted_yes 1 true 21 rfl (by kernel_rfl) s21, fun K hK => ?_⟩
        clear hs hb hx
        go_simp
        exact hK _ _ rfl (Ext.refl _)
      · intro a w hx hs hb
        obtain ⟨_, s21, rfl⟩ := hs 1 21 (by kernel_rfl) (by kernel_rfl)
        obtain ⟨_, s25, rfl⟩ := hs 5 25 (by kernel_rfl) (by kernel_rfl)
        obtain ⟨_, s26, rfl⟩ := hs 6 26 (by kernel_rfl) (by kernel_rfl)
        refine .inl ⟨wanted_yes 1 true 21 rfl (by kernel_rfl) s21, fun K hK => ?_⟩
        clear hs hb
        go_simp
        refine (rCheckRest_any PA n pc p fr WA wn wc OA on oc r _ (HP.out.keep hx.keeps) (HB0.out.keep hx).rest hn).mono ?_
        rintro e w' ⟨rfl, xq⟩; rw [CRE.out]
        exact hK _ _ rfl xq
      · intro a w hx hs hb
        obtain ⟨_, s21, rfl⟩ := hs 1 21 (by kernel_rfl) (by kernel_rfl)
        obtain ⟨_, s24, rfl⟩ := hs 4 24 (by kernel_rfl) (by kernel_rfl)
        obtain ⟨_, s27, rfl⟩ := hs 7 27 (by kernel_rfl) (by kernel_rfl)
        refine .inl ⟨wanted_yes 1 true 21 rfl (by kernel_rfl) s21, fun K hK => ?_⟩
        clear hs hb hx
        go_simp
        exact hK _ _ rfl (Ext.refl _)
      · intro a w hx hs hb
        obtain ⟨_, s21, rfl⟩ := hs 1 21 (by kernel_rfl) (by kernel_rfl)
        obtain ⟨_, s28, rfl⟩ := hs 8 28 (by kernel_rfl) (by kernel_rfl)
        refine .inl ⟨wanted_free rfl, fun K hK => ?_⟩
        clear hs hb hx
        go_simp
        exact hK _ _ rfl (Ext.refl _)
      · intro a w hx hs hb
        obtain ⟨_, s29, rfl⟩ := hs 9 29 (by kernel_rfl) (by kernel_rfl)
        refine .inl ⟨wanted_free rfl, fun K hK => ?_⟩
        clear hs hb hx
        go_simp
        exact hK _ _ rfl (Ext.refl _)
      · intro a w hx hs hb
        obtain ⟨_, s30, rfl⟩ := hs 10 30 (by kernel_rfl) (by kernel_rfl)
        have s5 : a.tmps[(5 : Nat)]? = some (.pointer (some ⟨b1, 0, none⟩)) := (hb 5 (by kernel_rfl)).trans (by rfl)
        have c0 := hx.keeps _ _ Cb10.out
        have c1 := hx.keeps _ _ Cb11.out
        have c2 := hx.keeps _ _ Cb12.out
        refine .inl ⟨wanted_yes 10 true 30 rfl (by kernel_rfl) s30, fun K hK => ?_⟩
        clear hs hb hx
        go_simp
        exact hK _ _ rfl (Ext.refl _)
      · intro a w hx hs hb
        obtain ⟨_, s30, rfl⟩ := hs 10 30 (by kernel_rfl) (by kernel_rfl)
        have s8 : a.tmps[(8 : Nat)]? = some (.pointer (some ⟨b2, 0, none⟩)) := (hb 8 (by kernel_rfl)).trans (by rfl)
        have c0 := hx.keeps _ _ Cb20.out
        have c1 := hx.keeps _ _ Cb21.out
        have c2 := hx.keeps _ _ Cb22.out
        refine .inl ⟨wanted_yes 10 true 30 rfl (by kernel_rfl) s30, fun K hK => ?_⟩
        clear hs hb hx
        go_simp
        exact hK _ _ rfl (Ext.refl _)
      · intro a w hx hs hb
        obtain ⟨_, s30, rfl⟩ := hs 10 30 (by kernel_rfl) (by kernel_rfl)
        obtain ⟨_, s31, rfl⟩ := hs 11 31 (by kernel_rfl) (by kernel_rfl)
        obtain ⟨_, s32, rfl⟩ := hs 12 32 (by kernel_rfl) (by kernel_rfl)
        refine .inl ⟨wanted_yes 10 true 30 rfl (by kernel_rfl) s30, fun K hK => ?_⟩
        clear hs hb
        go_simp
        refine (sameRests_any fr1 WA1 wn1 wc1 OA1 on1 oc1 M fr2 WA2 wn2 wc2 OA2 on2 oc2 M _ (HB1.out.keep hx).rest (HB2.out.keep hx).rest).mono ?_
        rintro e w' ⟨rfl, xq⟩; rw [sameR_self]
        exact hK _ _ rfl xq
      · intro a w hx hs hb
        obtain ⟨_, s30, rfl⟩ := hs 10 30 (by kernel_rfl) (by kernel_rfl)
        obtain ⟨_, s33, rfl⟩ := hs 13 33 (by kernel_rfl) (by kernel_rfl)
        refine .inl ⟨wanted_free rfl, fun K hK => ?_⟩
        clear hs hb hx
        go_simp
        exact hK _ _ rfl (Ext.refl _)
      · intro a w hx hs hb
        obtain ⟨_, s34, rfl⟩ := hs 14 34 (by kernel_rfl) (by kernel_rfl)
        refine .inl ⟨wanted_free rfl, fun K hK => ?_⟩
        clear hs hb hx
        go_simp
        exact hK _ _ rfl (Ext.refl _)
      · intro a w hx hs hb
        obtain ⟨_, s35, rfl⟩ := hs 15 35 (by kernel_rfl) (by kernel_rfl)
        have s6 : a.tmps[(6 : Nat)]? = some (.int .i64 MX) := (hb 6 (by kernel_rfl)).trans (by rfl)
        refine .inl ⟨wanted_yes 15 true 35 rfl (by kernel_rfl) s35, fun K hK => ?_⟩
        clear hs hb hx
        go_simp
        exact hK _ _ rfl (Ext.refl _)
      · intro a w hx hs hb
        obtain ⟨_, s35, rfl⟩ := hs 15 35 (by kernel_rfl) (by kernel_rfl)
        have s7 : a.tmps[(7 : Nat)]? = some (.int .i64 MX) := (hb 7 (by kernel_rfl)).trans (by rfl)
        refine .inl ⟨wanted_yes 15 true 35 rfl (by kernel_rfl) s35, fun K hK => ?_⟩
        clear hs hb hx
        go_simp
        exact hK _ _ rfl (Ext.refl _)
      · intro a w hx hs hb
        obtain ⟨_, s35, rfl⟩ := hs 15 35 (by kernel_rfl) (by kernel_rfl)
        obtain ⟨_, s36, rfl⟩ := hs 16 36 (by kernel_rfl) (by kernel_rfl)
        obtain ⟨_, s37, rfl⟩ := hs 17 37 (by kernel_rfl) (by kernel_rfl)
        refine .inl ⟨wanted_yes 15 true 35 rfl (by kernel_rfl) s35, fun K hK => ?_⟩
        clear hs hb hx
        go_simp
        exact hK _ _ rfl (Ext.refl _)
      · intro a w hx hs hb
        obtain ⟨_, s35, rfl⟩ := hs 15 35 (by kernel_rfl) (by kernel_rfl)
        obtain ⟨_, s38, rfl⟩ := hs 18 38 (by kernel_rfl) (by kernel_rfl)
        refine .inl ⟨wanted_free rfl, fun K hK => ?_⟩
        clear hs hb hx
        go_simp
        exact hK _ _ rfl (Ext.refl _)
      · intro a w hx hs hb
        obtain ⟨_, s39, rfl⟩ := hs 19 39 (by kernel_rfl) (by kernel_rfl)
        refine .inl ⟨wanted_free rfl, fun K hK => ?_⟩
        clear hs hb hx
        go_simp
        exact hK _ _ rfl (Ext.refl _)
    case last =>
      intro a w hx hsz hdf hs hb
      obtain ⟨_, s4, rfl⟩ := hs 20 4 (by kernel_rfl)
      have hx2 := HX.out.trans hx
      have hd : a.defers = [] := hdf
      clear hs hb hx hdf
      go_wp2
      exact bodyPost_ret (v := .bool true) (by simp [results, Try.results4, go_sem, s4]) hd ⟨rfl, hx2⟩
end Go.Proofs.Ytejpnbomlnifkaa
