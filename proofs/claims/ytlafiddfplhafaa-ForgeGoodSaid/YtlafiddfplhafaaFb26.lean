/- Order and Step of level, by the program and by the reference. -/
import Derived.Test.YtlafiddfplhafaaFb25
import Derived.Test.YtlafiddfplhafaaFb20
import Derived.Test.YtlafiddfplhafaaFb06
import Derived.Test.YtlafiddfplhafaaFb23
import Derived.Test.YtlafiddfplhafaaFb24
namespace Go.Proofs.Ytlafiddfplhafaa
set_option linter.unusedVariables false
set_option linter.unusedSimpArgs false
set_option linter.unusedVariables false
set_option linter.unusedSimpArgs false
open Go.RowKit
def orderV (N : NetM) : List Int × Int := if checkN N ≠ 0 then ([], checkN N) else match orderM N.gates with | some l => (l, 0) | none => ([], 5)
section
variable (i : Int) (GA : Option Addr) (gn gc : Nat) (RA : Option Addr) (rn rc : Nat) (OA : Option Addr) (on oc : Nat) (N : NetM) (RB : Option Addr) (pn pc : Nat) (IA : Option Addr) (jn jc : Nat) (regs ins : List Int) (w : World)
set_option maxHeartbeats 2000000 in
theorem order_any (h : NetC w i GA gn gc RA rn rc OA on oc N) :
    Calls Try.prog 18 #[netV i GA gn gc RA rn rc OA on oc] w fun e w' => ∃ v, e = .returned (Pr v (I (orderV N).2)) ∧ w'.ownsRow w.heap.size 3 1 v (orderV N).1.length ((orderV N).1.map I) ∧ Ext w w' := by
  generalize hM : orderV N = M
  unfold orderV at hM
  obtain ⟨W, hW⟩ : ∃ W, W = w.alloc (.cells #[I i, .slice GA gn gc, .slice RA rn rc, .slice OA on oc] 39) := ⟨_, rfl⟩
  have hxW : Ext w W := by rw [hW]; exact (Ext.refl _).alloc _
  have hbox : NetBox W w.heap.size i GA gn gc RA rn rc OA on oc := by rw [hW]; exact NetBox.new w i GA gn gc RA rn rc OA on oc _
  have HN := Lib.hid (h.keep hxW.keeps); have HBox := Lib.hid hbox; have HW := Lib.hid hW; have HX := Lib.hid hxW
  clear h hW hxW hbox
  by_cases h0 : checkN N = 0
  · rw [if_neg (by simp [h0])] at hM
    have HOK := Lib.hid (checkN_ok h0)
    have H0 := Lib.hid h0; clear h0
    cases hO : orderM N.gates with
    | none =>
      rw [hO] at hM
      have HM := Lib.hid hM; have HO := Lib.hid hO
      clear hM hO
      go_enter Try.func18, Try.ntmps18
      go_wp2_with fail
      rw [← HW.out]
      refine (netCheck_any _ GA gn gc RA rn rc OA on oc N W HN.out).mono ?_; rintro e w1 ⟨rfl, x1⟩; rw [H0.out]
      obtain ⟨q0, q1, q2, q3⟩ := HBox.out.keep x1.keeps
      have X1 := Lib.hid x1; clear x1
      go_wp2_with fail
      have hof := levelOf_any i GA gn gc RA rn rc OA on oc N w1 (HN.out.keep X1.out.keeps) HOK.out
      rw [HO.out] at hof
      refine hof.mono ?_; rintro e w2 ⟨rfl, x2⟩
      go_wp2
      go_ret2
      exact ⟨.slice none 0 0, by rw [← HM.out]; rfl, by rw [← HM.out]; exact World.ownsRow_nil _ _ _ _, (HX.out.trans X1.out).trans x2⟩
    | some l =>
      rw [hO] at hM
      have HM := Lib.hid hM; have HO := Lib.hid hO
      clear hM hO
      go_enter Try.func18, Try.ntmps18
      go_wp2_with fail
      rw [← HW.out]
      refine (netCheck_any _ GA gn gc RA rn rc OA on oc N W HN.out).mono ?_; rintro e w1 ⟨rfl, x1⟩; rw [H0.out]
      obtain ⟨q0, q1, q2, q3⟩ := HBox.out.keep x1.keeps
      have X1 := Lib.hid x1; clear x1
      go_wp2_with fail
      have hof := levelOf_any i GA gn gc RA rn rc OA on oc N w1 (HN.out.keep X1.out.keeps) HOK.out
      rw [HO.out] at hof
      refine hof.mono ?_; rintro e w2 ⟨v, rfl, hown, x2⟩
      go_wp2
      go_ret2
      exact ⟨v, by rw [← HM.out]; rfl, by rw [← HM.out]; exact own_base hown (HX.out.trans X1.out).size, (HX.out.trans X1.out).trans x2⟩
  · rw [if_pos h0] at hM
    have g : (checkN N != 0) = true := by simpa using h0
    have HM := Lib.hid hM; clear hM h0
    go_enter Try.func18, Try.ntmps18
    go_wp2_with fail
    rw [← HW.out]
    refine (netCheck_any _ GA gn gc RA rn rc OA on oc N W HN.out).mono ?_; rintro e w1 ⟨rfl, x1⟩
    go_wp2
    go_ret2
    exact ⟨.slice none 0 0, by rw [← HM.out]; rfl, by rw [← HM.out]; exact World.ownsRow_nil _ _ _ _, HX.out.trans x1⟩
end
end Go.Proofs.Ytlafiddfplhafaa
/- The bodies of ForgeSame and ForgeGood, from the contracts. -/
namespace Go.Proofs.Ytlafiddfplhafaa
set_option linter.unusedVariables false
set_option linter.unusedSimpArgs false
open Go.RowKit
section
variable (PA : Option Addr) (n pc : Nat) (p : List PNode) (B : Option Addr) (m d : Nat) (l : List Int) (w : World)
set_option maxRecDepth 100000 in
set_option maxHeartbeats 8000000 in
theorem forgeSame_walk (h : SlN w PA n p) (hn : n ≤ maxLen) (hl : Sl w B m (l.map I)) (hm : m ≤ maxLen) :
    Calls Try.prog 4 #[.slice PA n pc, .slice B m d] w fun e w' => e = .returned (.bool true) ∧ Ext w w' := by
  have HP := Lib.hid h; have HNM := Lib.hid hn; have HL := Lib.hid hl; have HMM := Lib.hid hm
  clear h hn hl hm
  go_enter Try.func4, Try.ntmps4
  go_wp2_with fail
  refine (net_any PA n pc p w HP.out HNM.out).mono ?_; rintro e w1 ⟨i, GA, gn, gc, RA, rn, rc, OA, on, oc, rfl, hN, x1⟩
  obtain ⟨wf, hwf, hxf, hbf⟩ := netbox_mk w1 i GA gn gc RA rn rc OA on oc
  have HN := Lib.hid (hN.keep hxf.keeps); have HBF := Lib.hid hbf; have HWF := Lib.hid hwf; have XF := Lib.hid (x1.trans hxf)
  clear hN x1 hwf hxf hbf
  by_cases hc : checkP p = 0
  · have F := net_facts hc
    have HF := Lib.hid F; have HC := Lib.hid hc
    have hre : runErr p l = timesM l 3 := by unfold runErr; rw [if_pos hc]
    have HRE := Lib.hid hre
    rw [hc]
    clear F hc hre
    go_wp2_with fail
    rw [← HWF.out]
    refine (frun_any PA n pc p B m d l wf (HP.out.keep XF.out.keeps) HNM.out (HL.out.keep XF.out.keeps) HMM.out).mono ?_; rintro e w2 ⟨v, vs, rfl, ho, x2⟩
    obtain ⟨A1, c1, rfl, n1, m1, hs1⟩ := ho.slice
    obtain ⟨q0, q1, q2, q3⟩ := HBF.out.keep x2.keeps
    have X2 := Lib.hid (XF.out.trans x2); have X2f := Lib.hid x2; have S2 := Lib.hid hs1; have HC1 := Lib.hid (Nat.le_trans n1 m1); clear ho hs1 n1 m1 x2
    go_wp2_with fail
    refine (run_any i GA gn gc RA rn rc OA on oc (netR p) B m d l w2 (HN.out.keep X2f.out.keeps) (HL.out.keep X2.out.keeps) HMM.out).mono ?_; rintro e w3 ⟨vo, vn, vs, rfl, h1, h2, x3⟩
    have hrows : (runV (netR p) l).1 = runRows p l := by
      by_cases ht : timesM l 3 = 0
      · exact HF.out.runV l ht
      · rw [runRows, if_neg (by rw [HRE.out]; exact ht)]
        unfold runV; rw [if_neg (by rw [HF.out.runE]; exact ht)]
    rw [HF.out.runE, ← HRE.out]
    rw [hrows] at h1
    obtain ⟨M, mc, rfl, n3, m3, hm⟩ := h1.slice
    obtain ⟨VA, vc, rfl, -, -, -⟩ := own_sl h2
    have X3 := Lib.hid (X2.out.trans x3); have X3f := Lib.hid (X2f.out.trans x3); have S3 := Lib.hid (S2.out.keep x3.keeps); have T3 := Lib.hid hm; clear x3 S2 X2 X2f h1 h2 hm n3 m3 hrows q0 q1 q2 q3
    generalize runRows p l = R at *
    generalize runErr p l = E at *
    generalize runV (netR p) l = V at *
    go_wp2_with fail
    refine (forgeBegun_any w3).mono ?_; rintro e w4 ⟨rfl, x4⟩
    have S4 := Lib.hid (S3.out.keep x4.keeps); have T4 := Lib.hid (T3.out.keep x4.keeps); have X4 := Lib.hid (X3.out.trans x4); have X4f := Lib.hid (X3f.out.trans x4); clear x4 S3 T3 X3 X3f
    go_wp2_with fail
    refine (progCheck_any PA n pc p w4 (HP.out.keep X4.out.keeps) HNM.out).mono ?_; rintro e w5 ⟨rfl, x5⟩; rw [HC.out]
    have S5 := Lib.hid (S4.out.keep x5.keeps); have T5 := Lib.hid (T4.out.keep x5.keeps); have X5 := Lib.hid (X4.out.trans x5); have X5f := Lib.hid (X4f.out.trans x5); clear x5 S4 T4 X4 X4f
    obtain ⟨q0, q1, q2, q3⟩ := HBF.out.keep X5f.out.keeps
    go_wp2_with fail
    refine (netCheck_any i GA gn gc RA rn rc OA on oc (netR p) w5 (HN.out.keep X5f.out.keeps)).mono ?_; rintro e w6 ⟨rfl, x6⟩; rw [HF.out.check]
    have S6 := Lib.hid (S5.out.keep x6.keeps); have T6 := Lib.hid (T5.out.keep x6.keeps); have X6 := Lib.hid (X5.out.trans x6); clear x6 S5 T5 X5 X5f q0 q1 q2 q3
    go_wp2_with fail
    refine (sameRows_any A1 M _ _ c1 mc R R w6 S6.out T6.out HC1.out HC1.out).mono ?_; rintro e w7 ⟨rfl, x7⟩
    rw [decide_eq_true (rfl : R = R)]
    go_wp2
    go_ret
    exact ⟨by simp, X6.out.trans x7⟩
  · have hnz : (checkP p != 0) = true := by simpa using hc
    have HCP := Lib.hid (fun Q (hQ : SlN Q PA n p) => progCheck_any PA n pc p Q hQ HNM.out)
    generalize checkP p = C at *
    clear hc
    go_wp2_with fail
    rw [← HWF.out]
    refine (forgeBegun_any wf).mono ?_; rintro e w4 ⟨rfl, x4⟩
    have X4 := Lib.hid (XF.out.trans x4); clear x4
    go_wp2_with fail
    refine (HCP.out w4 (HP.out.keep X4.out.keeps)).mono ?_; rintro e w5 ⟨rfl, x5⟩
    go_wp2
    go_ret
    exact ⟨by simp, X4.out.trans x5⟩
theorem good_bad {p : List PNode} (F : NetFacts p) : badIs (netR p) = false ∧ (badE (netR p) = 0 ∨ badE (netR p) = 2) := by
  have hr := F.reach
  unfold badIs badE
  rw [if_neg (by simp [F.check]), if_neg (by simp [F.check])]
  cases h : reachM (netR p) with
  | ok qs => simp
  | bad w => exact absurd h (hr w)
  | many => simp
theorem good_order {p : List PNode} (F : NetFacts p) : (orderV (netR p)).2 = 0 := by
  obtain ⟨l, hl⟩ := F.order
  unfold orderV
  rw [if_neg (by simp [F.check]), hl]
theorem timesM_not6 (l : List Int) (k : Nat) : timesM l k ≠ 6 := by
  unfold timesM; split
  · decide
  · split <;> decide
set_option maxRecDepth 100000 in
set_option maxHeartbeats 8000000 in
theorem forgeGood_walk (h : SlN w PA n p) (hn : n ≤ maxLen) (hl : Sl w B m (l.map I)) (hm : m ≤ maxLen) :
    Calls Try.prog 5 #[.slice PA n pc, .slice B m d] w fun e w' => e = .returned (.bool true) ∧ Ext w w' := by
  have HP := Lib.hid h; have HNM := Lib.hid hn; have HL := Lib.hid hl; have HMM := Lib.hid hm
  clear h hn hl hm
  go_enter Try.func5, Try.ntmps5
  go_wp2_with fail
  refine (net_any PA n pc p w HP.out HNM.out).mono ?_; rintro e w1 ⟨i, GA, gn, gc, RA, rn, rc, OA, on, oc, rfl, hN, x1⟩
  obtain ⟨wf, hwf, hxf, hbf⟩ := netbox_mk w1 i GA gn gc RA rn rc OA on oc
  have HN := Lib.hid (hN.keep hxf.keeps); have HBF := Lib.hid hbf; have HWF := Lib.hid hwf; have XF := Lib.hid (x1.trans hxf)
  clear hN x1 hwf hxf
  by_cases hc : checkP p = 0
  · have F := net_facts hc
    have hi : i = 3 := by rw [HN.out.ins]; exact F.ins
    have ho : on = 3 := by have := HN.out.outs.len; rw [F.outs] at this; exact this.symm
    subst hi; subst ho
    obtain ⟨g1, g2⟩ := good_bad F
    have g3 := good_order F
    have g4 : runE (netR p) l ≠ 6 := by rw [F.runE]; exact timesM_not6 l 3
    rw [hc]
    have G1 := Lib.hid g1; have G2 := Lib.hid g2; have G3 := Lib.hid g3; have G4 := Lib.hid g4
    obtain ⟨q0, q1, q2, q3⟩ := hbf
    rw [HWF.out] at q0 q1 q2 q3
    clear F hc g1 g2 g3 g4
    go_wp2_with fail
    rw [← HWF.out]
    clear q0 q1 q2 q3
    refine (order_any 3 GA gn gc RA rn rc OA 3 oc (netR p) wf HN.out).mono ?_; rintro e w2 ⟨v2, rfl, -, x2⟩; rw [G3.out]
    obtain ⟨q0, q1, q2, q3⟩ := HBF.out.keep x2.keeps
    have X2 := Lib.hid x2; clear x2
    go_wp2_with fail
    clear q0 q1 q2 q3
    refine (bad_any 3 GA gn gc RA rn rc OA 3 oc (netR p) w2 (HN.out.keep X2.out.keeps)).mono ?_; rintro e w3 ⟨v3, rfl, -, x3⟩; rw [G1.out]
    have X3 := Lib.hid (X2.out.trans x3); clear x3 X2
    obtain ⟨q0, q1, q2, q3⟩ := HBF.out.keep X3.out.keeps
    obtain ⟨E3, hE3⟩ : ∃ E, badE (netR p) = E := ⟨_, rfl⟩
    have g2 := G2.out
    rw [hE3] at g2 ⊢
    go_wp2_with fail
    clear q0 q1 q2 q3
    refine (run_any 3 GA gn gc RA rn rc OA 3 oc (netR p) B m d l w3 (HN.out.keep X3.out.keeps) (HL.out.keep (XF.out.trans X3.out).keeps) HMM.out).mono ?_; rintro e w4 ⟨vo, vn, vs, rfl, -, -, x4⟩
    have X4 := Lib.hid (X3.out.trans x4); clear x4 X3
    obtain ⟨E4, hE4⟩ : ∃ E, runE (netR p) l = E := ⟨_, rfl⟩
    have g4 := G4.out
    rw [hE4] at g4 ⊢
    clear hE3 hE4 G2 G4
    go_wp2_with fail
    refine (forgeBegun_any w4).mono ?_; rintro e w5 ⟨rfl, x5⟩
    have X5 := Lib.hid (X4.out.trans x5); clear x5 X4
    obtain ⟨q0, q1, q2, q3⟩ := HBF.out.keep X5.out.keeps
    have g4' : (E4 != 6) = true := by simpa using g4
    have hx := Lib.hid (XF.out.trans X5.out)
    rcases g2 with rfl | rfl
    · go_wp2
      go_ret
      exact ⟨by simp [g4], hx.out⟩
    · go_wp2
      go_ret
      exact ⟨by simp [g4], hx.out⟩
  · have hnz : (checkP p != 0) = true := by simpa using hc
    generalize checkP p = C at *
    clear hc hbf
    go_wp2_with fail
    rw [← HWF.out]
    refine (forgeBegun_any wf).mono ?_; rintro e w4 ⟨rfl, x4⟩
    go_wp2
    go_ret
    exact ⟨rfl, XF.out.trans x4⟩
end
end Go.Proofs.Ytlafiddfplhafaa
