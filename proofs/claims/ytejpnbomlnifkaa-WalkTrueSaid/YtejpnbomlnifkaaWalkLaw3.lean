/- The body of WalkTrue, from the contracts. -/
import Derived.Test.YtejpnbomlnifkaaWalkLaws
namespace Go.Proofs.Ytejpnbomlnifkaa
set_option linter.unusedVariables false
set_option linter.unusedSimpArgs false
open Go.RowKit

set_option maxRecDepth 100000 in
set_option maxHeartbeats 8000000 in
theorem walkTrue_walk (PA : Option Addr) (n pc : Nat) (p : List PNode) (fr : Bool) (WA : Option Addr) (wn wc : Nat) (OA : Option Addr) (on oc : Nat) (r : RestM) (ins th : Int) (w : World)
    (hp : SlN w PA n p) (hr : RestC w fr WA wn wc OA on oc r) (hn : n ≤ maxLen) (hth : (Lit.int .i64 th).wf = true) :
    Calls Try.prog 6 #[.slice PA n pc, restV fr WA wn wc OA on oc, I ins, I th] w fun e w' => e = .returned (.bool true) ∧ Ext w w' := by
  have hkr : -9223372036854775808 ≤ th ∧ th ≤ 9223372036854775807 := by simpa [Lit.wf, IntKind.min, IntKind.max, IntKind.signed, IntKind.bits] using hth
  obtain ⟨ht1, ht2⟩ := hkr
  obtain ⟨W, hW⟩ : ∃ W, W = w.alloc (.cells #[Bv fr, .slice WA wn wc, .slice OA on oc] 39) := ⟨_, rfl⟩
  have hxW : Ext w W := by rw [hW]; exact (Ext.refl _).alloc _
  obtain ⟨q0, q1, q2, hsz⟩ := restBox w fr WA wn wc OA on oc hW
  have HP := Lib.hid (hp.keep hxW.keeps); have HR := Lib.hid (hr.keep hxW.keeps); have HW := Lib.hid hW; have HX := Lib.hid hxW
  have HPL := Lib.hid hp.1
  have hso := @step_ok p r ins
  have hid := fun (q : RestM) => @step_idle p q (chooseM th 8)
  have hcr := choose_range th 8 (by omega)
  have hch : ∀ Q, Calls Try.prog 9 #[I th, .int .i64 8] Q fun e w' => e = .returned (I (chooseM th 8)) ∧ Q = w' := fun Q => choose_any th 8 Q (by omega) (by omega) ht1 ht2
  generalize hM : stepM p r ins = M at hso
  have HM := Lib.hid hM; have HSO := Lib.hid hso; have HI := Lib.hid hid; have HCR := Lib.hid hcr; have HCH := Lib.hid hch
  clear hp hr hW hxW hM hso hid hcr hch ht1 ht2
  generalize chooseM th 8 = C at *
  by_cases h0 : M.2.2 = 0
  · obtain ⟨k1, k2, k3, k4⟩ := HSO.out h0
    have K1 := Lib.hid k1; have K2 := Lib.hid k2; have K3 := Lib.hid k3; have K4 := Lib.hid k4; have H0 := Lib.hid h0
    have hn14 : n ≤ 14 := by have := (checkP_ok (checkR_ok k1).1).1; have := HPL.out; omega
    clear k1 k2 k3 k4
    go_enter Try.func6, Try.ntmps6
    go_wp2_with fail
    rw [← HW.out]
    go_wp2_with fail
    refine (walkStep_any PA n pc p fr WA wn wc OA on oc r ins W HP.out HR.out hn).mono ?_; rintro e w1 ⟨fr1, WA1, wn1, wc1, OA1, on1, oc1, rfl, hr1, -, -, x1⟩; rw [HM.out] at hr1 ⊢
    rw [h0]; clear h0
    have HR1 := Lib.hid hr1; have X1 := Lib.hid x1; clear hr1 x1 q0 q1 q2
    go_wp2_with fail
    have hb1 : RBox (w1.alloc (.cells #[Bv fr1, .slice WA1 wn1 wc1, .slice OA1 on1 oc1] 39)) w1.heap.size fr1 WA1 wn1 wc1 OA1 on1 oc1 M.1 := RBox.new HR1.out
    have x2 := X1.out.alloc (.cells #[Bv fr1, .slice WA1 wn1 wc1, .slice OA1 on1 oc1] 39)
    have q0 := hb1.c0; have q1 := hb1.c1; have q2 := hb1.c2
    have HB1 := Lib.hid hb1; have X2 := Lib.hid x2; clear hb1 x2
    generalize w1.alloc (.cells #[Bv fr1, .slice WA1 wn1 wc1, .slice OA1 on1 oc1] 39) = W2 at *
    generalize w1.heap.size = b1 at *
    go_wp2_with fail
    refine (walkCheck_any PA n pc p fr1 WA1 wn1 wc1 OA1 on1 oc1 M.1 W2 (HP.out.keep X2.out.keeps) HB1.out.rest hn).mono ?_; rintro e w3 ⟨rfl, x3⟩; rw [K1.out]
    have hB := HB1.out.keep x3
    have efr : fr1 = false := by rw [← hB.rest.fresh]; exact K2.out
    subst efr
    have ewn : wn1 = n := by have := hB.rest.waits.len; have := K3.out; have := HPL.out; omega
    subst ewn
    clear q0 q1 q2
    have q0 := hB.c0; have q1 := hB.c1; have q2 := hB.c2
    have HB := Lib.hid hB; have X3 := Lib.hid (X2.out.trans x3)
    clear hB x3 HB1 X2 HR1 X1
    go_wp2_with fail
    go_loopw [12, 13] (fun s i wr => ∃ k : Nat, k ≤ wn1 ∧ i = .int .i64 k ∧ s = Bv ((M.1.waits.take k).contains true) ∧ wr = w3) (fun _ i _ => wn1 - (intOf i).toNat)
    case atStart => exact ⟨0, Nat.zero_le _, rfl, by simp, rfl⟩
    case round =>
      obtain ⟨k, hk, rfl, rfl, rfl⟩ := hrel
      by_cases hlt : k < wn1
      · obtain ⟨b, off, x, rfl, hc, hx⟩ := HB.out.rest.waits.at_ hlt
        have hs : (M.1.waits.take (k + 1)).contains true = ((M.1.waits.take k).contains true || x) := by
          rw [List.take_add_one, hx]; simp [List.contains_append, Bool.beq_comm]
        have HS := Lib.hid hs; clear hs hx
        cases hb : (M.1.waits.take k).contains true
        · rw [hb] at HS
          go_wp2
          go_roundw
          case rel => exact ⟨k + 1, by omega, by go_num, by rw [HS.out]; simp⟩
          case measure => simp [intOf]; try omega
        · rw [hb] at HS
          go_wp2
          go_roundw
          case rel => exact ⟨k + 1, by omega, by go_num, by rw [HS.out]; simp⟩
          case measure => simp [intOf]; try omega
      · have hkn : k = wn1 := by omega
        subst hkn
        have ht : M.1.waits.take k = M.1.waits := List.take_of_length_le (by have := K3.out; have := HPL.out; omega)
        rw [ht]; clear ht hlt hk
        cases hs : M.1.waits.contains true
        · have HS := Lib.hid hs; clear hs
          cases ho : M.2.1
          · clear ho
            go_wp2_with fail
            go_cut [14, 15, 16] (fun s1 s2 s3 wx => ∃ bN, s1 = .pointer (some ⟨bN, 0, none⟩) ∧ s2 = .bool false ∧ s3 = .int .i64 0 ∧ Held wx bN ⟨false, List.replicate p.length false, [false, false, false]⟩ ∧ Ext wr wx)
            case first =>
              have st : ∀ (Q : World), Ext wr Q → Calls Try.prog 18 #[.slice PA k pc, restV false WA1 k wc1 OA1 on1 oc1, I C] Q fun e w' => RestB Q w' e ⟨false, List.replicate p.length false, [false, false, false]⟩ false 0 := fun Q hQ => by
                have := walkStep_any PA k pc p false WA1 k wc1 OA1 on1 oc1 M.1 C Q ((HP.out.keep X3.out.keeps).keep hQ.keeps) (HB.out.keep hQ).rest hn
                rw [HI.out M.1 K1.out K2.out HS.out HCR.out.1 HCR.out.2] at this; exact this
              have stb : ∀ (Q : World) (g : Nat), Blank Q g → Ext wr Q → Calls Try.prog 18 #[.slice PA k pc, restV false WA1 k wc1 OA1 on1 oc1, I C] Q fun e w' => RestB Q w' e ⟨false, List.replicate p.length false, [false, false, false]⟩ false 0 ∧ Blank w' g := fun Q g hg hQ =>
                (st Q hQ).mono fun e w' h => ⟨h, by obtain ⟨_, _, _, _, _, _, _, _, _, _, _, hx⟩ := h; exact hg.keep hx⟩
              have key : ∀ Q, Ext wr Q → Q.cell? ⟨b1, 0, none⟩ = some (Bv false) ∧ Q.cell? ⟨b1, 1, none⟩ = some (.slice WA1 k wc1) ∧ Q.cell? ⟨b1, 2, none⟩ = some (.slice OA1 on1 oc1) := fun Q hQ => ⟨hQ.keeps _ _ q0, hQ.keeps _ _ q1, hQ.keeps _ _ q2⟩
              have CH := HCH.out
              go_region_held3 (fun w' => w'.cell? ⟨b1, 0, none⟩ = some (Bv false) ∧ w'.cell? ⟨b1, 1, none⟩ = some (.slice WA1 k wc1) ∧ w'.cell? ⟨b1, 2, none⟩ = some (.slice OA1 on1 oc1))
                (exact key _ (by repeat (first | exact Ext.refl _ | exact (Ext.refl _).drew | refine Ext.drew ?_ | refine Ext.alloc ?_ _ | refine Ext.setCell ?_ (by exact Nat.le_refl _) _ | refine Ext.trans ?_ xs)))
                (first
                  | (go_at_call 9; (with_reducible refine (CH _).mono ?_); rintro e wq ⟨rfl, rfl⟩)
                  | (go_at_call 18; refine (stb (wr.drew.alloc (.cells #[.bool false, .slice none 0 0, .slice none 0 0] 39)) wr.heap.size ((Blank.new wr.drew)) (((Ext.refl wr).drew).alloc _)).mono ?_; rintro e wz ⟨⟨fr2, WA2, wn2, wc2, OA2, on2, oc2, rfl, hr, na, no, xs⟩, ⟨z0, z1, z2, zl, zf⟩⟩)
                  | (go_at_call 18; refine (st wr.drew ((Ext.refl wr).drew)).mono ?_; rintro e wz ⟨fr2, WA2, wn2, wc2, OA2, on2, oc2, rfl, hr, na, no, xs⟩))
              all_goals go_wp2_with fail
              all_goals go_meet
              all_goals
                refine ⟨_, rfl, rfl, rfl, ?_, ?_⟩
                · first
                    | exact ⟨_, _, _, _, _, _, _, RBox.new hr⟩
                    | exact Held.stored ⟨z0, z1, z2, zl, zf⟩ hr (fun a h => Nat.ne_of_lt (Nat.lt_of_lt_of_le (Blank.new wr.drew).lt (na a h))) (fun a h => Nat.ne_of_lt (Nat.lt_of_lt_of_le (Blank.new wr.drew).lt (no a h)))
                repeat (first | exact Ext.refl _ | exact (Ext.refl _).drew | refine Ext.drew ?_ | refine Ext.alloc ?_ _ | refine Ext.setCell ?_ (by exact Nat.le_refl _) _ | refine Ext.trans ?_ xs)
            case rest =>
            obtain ⟨b2, rfl, rfl, rfl, ⟨fr2, WA2, wn2, wc2, OA2, on2, oc2, hB2⟩, x4⟩ := hcut
            have efr2 : fr2 = false := hB2.rest.fresh.symm
            have ewn2 : wn2 = k := by have := hB2.rest.waits.len; have := HPL.out; simp at *; omega
            have eon2 : on2 = 3 := hB2.rest.outs.len.symm
            subst efr2; subst eon2; subst ewn2
            have y0 := hB2.c0; have y1 := hB2.c1; have y2 := hB2.c2
            have hX4 := (HX.out.trans X3.out).trans x4
            have HB2 := Lib.hid hB2; have X4 := Lib.hid hX4
            clear hB2 hX4 x4 q0 q1 q2 HB
            go_wp2_with fail
            go_loopw [17] (fun i wr' => ∃ j : Nat, j ≤ wn2 ∧ i = .int .i64 j ∧ wr' = wc) (fun i _ => wn2 - (intOf i).toNat)
            case atStart => exact ⟨0, Nat.zero_le _, rfl, rfl⟩
            case round =>
              obtain ⟨j, hj, rfl, rfl⟩ := hrel
              by_cases hlt : j < wn2
              · obtain ⟨b, off, x, rfl, hc, hx⟩ := HB2.out.rest.waits.at_ hlt
                have ex : x = false := by
                  have h2 : (List.replicate p.length false)[j]? = some x := hx
                  rw [List.getElem?_replicate] at h2
                  split at h2
                  · exact (Option.some.inj h2).symm
                  · cases h2
                subst ex; clear hx
                go_wp2
                go_roundw
                case rel => exact ⟨j + 1, by omega, by first | rfl | (simp; done) | go_num⟩
                case measure => simp [intOf]; try omega
              · have hjn : j = wn2 := by omega
                subst hjn
                clear hlt hj
                go_wp2_with fail
                go_loopw [18] (fun i wr' => ∃ j : Nat, j ≤ 3 ∧ i = .int .i64 j ∧ wr' = wr) (fun i _ => 3 - (intOf i).toNat)
                case atStart => exact ⟨0, Nat.zero_le _, rfl, rfl⟩
                case round =>
                  obtain ⟨j, hj, rfl, rfl⟩ := hrel
                  by_cases hlt : j < 3
                  · obtain ⟨b, off, x, rfl, hc, hx⟩ := HB2.out.rest.outs.at_ hlt
                    have ex : x = false := by
                      have h2 : ([false, false, false] : List Bool)[j]? = some x := hx
                      have h3 : j = 0 ∨ j = 1 ∨ j = 2 := by omega
                      rcases h3 with rfl | rfl | rfl <;> exact (Option.some.inj h2).symm
                    subst ex; clear hx
                    go_wp2
                    go_roundw
                    case rel => exact ⟨j + 1, by omega, by first | rfl | (simp; done) | go_num⟩
                    case measure => simp [intOf]; try omega
                  · have hjn : j = 3 := by omega
                    subst hjn
                    clear hlt hj
                    go_wp2_with fail
                    refine (walkBegun_any _).mono ?_; rintro e w5 ⟨rfl, x5⟩
                    go_wp2
                    go_ret
                    exact ⟨rfl, X4.out.trans x5⟩
          · clear ho
            go_wp2_with fail
            go_cut [14, 15, 16] (fun s1 s2 s3 wx => ∃ bN, s1 = .pointer (some ⟨bN, 0, none⟩) ∧ s2 = .bool false ∧ s3 = .int .i64 0 ∧ Held wx bN ⟨false, List.replicate p.length false, [false, false, false]⟩ ∧ Ext wr wx)
            case first =>
              have st : ∀ (Q : World), Ext wr Q → Calls Try.prog 18 #[.slice PA k pc, restV false WA1 k wc1 OA1 on1 oc1, I C] Q fun e w' => RestB Q w' e ⟨false, List.replicate p.length false, [false, false, false]⟩ false 0 := fun Q hQ => by
                have := walkStep_any PA k pc p false WA1 k wc1 OA1 on1 oc1 M.1 C Q ((HP.out.keep X3.out.keeps).keep hQ.keeps) (HB.out.keep hQ).rest hn
                rw [HI.out M.1 K1.out K2.out HS.out HCR.out.1 HCR.out.2] at this; exact this
              have stb : ∀ (Q : World) (g : Nat), Blank Q g → Ext wr Q → Calls Try.prog 18 #[.slice PA k pc, restV false WA1 k wc1 OA1 on1 oc1, I C] Q fun e w' => RestB Q w' e ⟨false, List.replicate p.length false, [false, false, false]⟩ false 0 ∧ Blank w' g := fun Q g hg hQ =>
                (st Q hQ).mono fun e w' h => ⟨h, by obtain ⟨_, _, _, _, _, _, _, _, _, _, _, hx⟩ := h; exact hg.keep hx⟩
              have key : ∀ Q, Ext wr Q → Q.cell? ⟨b1, 0, none⟩ = some (Bv false) ∧ Q.cell? ⟨b1, 1, none⟩ = some (.slice WA1 k wc1) ∧ Q.cell? ⟨b1, 2, none⟩ = some (.slice OA1 on1 oc1) := fun Q hQ => ⟨hQ.keeps _ _ q0, hQ.keeps _ _ q1, hQ.keeps _ _ q2⟩
              have CH := HCH.out
              go_region_held3 (fun w' => w'.cell? ⟨b1, 0, none⟩ = some (Bv false) ∧ w'.cell? ⟨b1, 1, none⟩ = some (.slice WA1 k wc1) ∧ w'.cell? ⟨b1, 2, none⟩ = some (.slice OA1 on1 oc1))
                (exact key _ (by repeat (first | exact Ext.refl _ | exact (Ext.refl _).drew | refine Ext.drew ?_ | refine Ext.alloc ?_ _ | refine Ext.setCell ?_ (by exact Nat.le_refl _) _ | refine Ext.trans ?_ xs)))
                (first
                  | (go_at_call 9; (with_reducible refine (CH _).mono ?_); rintro e wq ⟨rfl, rfl⟩)
                  | (go_at_call 18; refine (stb (wr.drew.alloc (.cells #[.bool false, .slice none 0 0, .slice none 0 0] 39)) wr.heap.size ((Blank.new wr.drew)) (((Ext.refl wr).drew).alloc _)).mono ?_; rintro e wz ⟨⟨fr2, WA2, wn2, wc2, OA2, on2, oc2, rfl, hr, na, no, xs⟩, ⟨z0, z1, z2, zl, zf⟩⟩)
                  | (go_at_call 18; refine (st wr.drew ((Ext.refl wr).drew)).mono ?_; rintro e wz ⟨fr2, WA2, wn2, wc2, OA2, on2, oc2, rfl, hr, na, no, xs⟩))
              all_goals go_wp2_with fail
              all_goals go_meet
              all_goals
                refine ⟨_, rfl, rfl, rfl, ?_, ?_⟩
                · first
                    | exact ⟨_, _, _, _, _, _, _, RBox.new hr⟩
                    | exact Held.stored ⟨z0, z1, z2, zl, zf⟩ hr (fun a h => Nat.ne_of_lt (Nat.lt_of_lt_of_le (Blank.new wr.drew).lt (na a h))) (fun a h => Nat.ne_of_lt (Nat.lt_of_lt_of_le (Blank.new wr.drew).lt (no a h)))
                repeat (first | exact Ext.refl _ | exact (Ext.refl _).drew | refine Ext.drew ?_ | refine Ext.alloc ?_ _ | refine Ext.setCell ?_ (by exact Nat.le_refl _) _ | refine Ext.trans ?_ xs)
            case rest =>
            obtain ⟨b2, rfl, rfl, rfl, ⟨fr2, WA2, wn2, wc2, OA2, on2, oc2, hB2⟩, x4⟩ := hcut
            have efr2 : fr2 = false := hB2.rest.fresh.symm
            have ewn2 : wn2 = k := by have := hB2.rest.waits.len; have := HPL.out; simp at *; omega
            have eon2 : on2 = 3 := hB2.rest.outs.len.symm
            subst efr2; subst eon2; subst ewn2
            have y0 := hB2.c0; have y1 := hB2.c1; have y2 := hB2.c2
            have hX4 := (HX.out.trans X3.out).trans x4
            have HB2 := Lib.hid hB2; have X4 := Lib.hid hX4
            clear hB2 hX4 x4 q0 q1 q2 HB
            go_wp2_with fail
            go_loopw [17] (fun i wr' => ∃ j : Nat, j ≤ wn2 ∧ i = .int .i64 j ∧ wr' = wc) (fun i _ => wn2 - (intOf i).toNat)
            case atStart => exact ⟨0, Nat.zero_le _, rfl, rfl⟩
            case round =>
              obtain ⟨j, hj, rfl, rfl⟩ := hrel
              by_cases hlt : j < wn2
              · obtain ⟨b, off, x, rfl, hc, hx⟩ := HB2.out.rest.waits.at_ hlt
                have ex : x = false := by
                  have h2 : (List.replicate p.length false)[j]? = some x := hx
                  rw [List.getElem?_replicate] at h2
                  split at h2
                  · exact (Option.some.inj h2).symm
                  · cases h2
                subst ex; clear hx
                go_wp2
                go_roundw
                case rel => exact ⟨j + 1, by omega, by first | rfl | (simp; done) | go_num⟩
                case measure => simp [intOf]; try omega
              · have hjn : j = wn2 := by omega
                subst hjn
                clear hlt hj
                go_wp2_with fail
                go_loopw [18] (fun i wr' => ∃ j : Nat, j ≤ 3 ∧ i = .int .i64 j ∧ wr' = wr) (fun i _ => 3 - (intOf i).toNat)
                case atStart => exact ⟨0, Nat.zero_le _, rfl, rfl⟩
                case round =>
                  obtain ⟨j, hj, rfl, rfl⟩ := hrel
                  by_cases hlt : j < 3
                  · obtain ⟨b, off, x, rfl, hc, hx⟩ := HB2.out.rest.outs.at_ hlt
                    have ex : x = false := by
                      have h2 : ([false, false, false] : List Bool)[j]? = some x := hx
                      have h3 : j = 0 ∨ j = 1 ∨ j = 2 := by omega
                      rcases h3 with rfl | rfl | rfl <;> exact (Option.some.inj h2).symm
                    subst ex; clear hx
                    go_wp2
                    go_roundw
                    case rel => exact ⟨j + 1, by omega, by first | rfl | (simp; done) | go_num⟩
                    case measure => simp [intOf]; try omega
                  · have hjn : j = 3 := by omega
                    subst hjn
                    clear hlt hj
                    go_wp2_with fail
                    refine (walkBegun_any _).mono ?_; rintro e w5 ⟨rfl, x5⟩
                    go_wp2
                    go_ret
                    exact ⟨rfl, X4.out.trans x5⟩
        · have ho : M.2.1 = false := by
            cases ho : M.2.1
            · rfl
            · have := K4.out ho; rw [hs] at this; cases this
          rw [ho]; clear ho hs
          go_wp2_with fail
          refine (walkBegun_any wr).mono ?_; rintro e w5 ⟨rfl, x5⟩
          go_wp2
          go_ret
          exact ⟨by simp, (HX.out.trans X3.out).trans x5⟩
  · have hne := h0
    clear h0
    go_enter Try.func6, Try.ntmps6
    go_wp2_with fail
    rw [← HW.out]
    go_wp2_with fail
    refine (walkStep_any PA n pc p fr WA wn wc OA on oc r ins W HP.out HR.out hn).mono ?_; rintro e w1 ⟨fr1, WA1, wn1, wc1, OA1, on1, oc1, rfl, hr1, -, -, x1⟩; rw [HM.out] at hr1 ⊢
    have X1 := Lib.hid x1; clear hr1 x1 q0 q1 q2
    go_wp2_with fail
    have x2 := X1.out.alloc (.cells #[Bv fr1, .slice WA1 wn1 wc1, .slice OA1 on1 oc1] 39)
    refine (walkBegun_any _).mono ?_; rintro e w5 ⟨rfl, x5⟩
    go_wp2
    go_ret
    exact ⟨by simp, (HX.out.trans x2).trans x5⟩
end Go.Proofs.Ytejpnbomlnifkaa
