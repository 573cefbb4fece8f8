/- Step of package walk. -/
import Derived.Test.YtlafiddfplhafaaFa11
import Derived.Test.YtlafiddfplhafaaFa13
import Derived.Test.YtlafiddfplhafaaFa19
import Derived.Test.YtlafiddfplhafaaFa09
import Derived.Test.YtlafiddfplhafaaFa23
namespace Go.Proofs.Ytlafiddfplhafaa
set_option linter.unusedVariables false
set_option linter.unusedSimpArgs false
set_option linter.unusedVariables false
set_option linter.unusedSimpArgs false
open Go.RowKit
end Go.Proofs.Ytlafiddfplhafaa
/- The reference's WalkOf. -/
namespace Go.Proofs.Ytlafiddfplhafaa
set_option linter.unusedVariables false
set_option linter.unusedSimpArgs false
open Go.RowKit
theorem power3 (w : World) : Calls Try.prog 69 #[.int .i64 3] w fun e w' => e = .returned (.int .i64 8) ∧ w = w' := power_any w 3 (by omega)
theorem bits3 (ins : Int) (h0 : 0 ≤ ins) (h8 : ins < 8) (w : World) : Calls Try.prog 71 #[I ins, .int .i64 3] w fun e w' => ∃ g c, e = .returned (.slice (some ⟨g, 0, none⟩) 3 c) ∧ w.heap.size ≤ g ∧ g < w'.heap.size ∧ (∀ j x, (bitsM ins 3)[j]? = some x → w'.cell? ⟨g, j, none⟩ = some (I x)) ∧ Ext w w' :=
  (rbits_any ins 3 w h0 (by omega) (by omega)).mono fun e w' ⟨v, he, hown, hx⟩ => by
    obtain ⟨g, c, rfl⟩ := own_form hown (by omega)
    obtain ⟨A, c', e1, -, -, hs⟩ := own_sl hown
    injection e1 with e1 _ _; subst e1
    refine ⟨g, c, he, (hown.lt g rfl).1, (hown.lt g rfl).2, fun j x hj => ?_, hx⟩
    obtain ⟨b, off, e2, hc⟩ := hs.2 j (I x) (by rw [List.getElem?_map, hj]; rfl)
    injection e2 with e2; injection e2 with e2 e3; subst e2; subst e3
    simpa using hc
set_option maxRecDepth 100000 in
set_option maxHeartbeats 8000000 in
theorem walkOf_any (PA : Option Addr) (n pc : Nat) (p : List PNode) (fr : Bool) (WA : Option Addr) (wn wc : Nat) (OA : Option Addr) (on oc : Nat) (r : RestM) (ins : Int) (w : World)
    (hp : SlN w PA n p) (hr : RestC w fr WA wn wc OA on oc r) (hn : n ≤ maxLen) :
    Calls Try.prog 30 #[.slice PA n pc, restV fr WA wn wc OA on oc, I ins] w fun e w' => RestB w w' e (stepM p r ins).1 (stepM p r ins).2.1 (stepM p r ins).2.2 := by
  generalize hM : stepM p r ins = M
  unfold stepM at hM
  have hpl := hp.1
  obtain ⟨W, hW⟩ : ∃ W, W = w.alloc (.cells #[Bv fr, .slice WA wn wc, .slice OA on oc] 59) := ⟨_, rfl⟩
  obtain ⟨W2, hW2⟩ : ∃ W2, W2 = W.alloc (.cells #[.bool false, .slice none 0 0, .slice none 0 0] 59) := ⟨_, rfl⟩
  obtain ⟨p0, p1, p2, hsz⟩ := restBox w fr WA wn wc OA on oc hW
  obtain ⟨y0, y1, y2, hsz2⟩ := restBox W false none 0 0 none 0 0 hW2
  have hWs : W.heap.size = w.heap.size + 1 := by rw [hW]; simp
  rw [hWs] at y0 y1 y2
  have f1 : ∀ j, W2.frozen? ⟨w.heap.size + 1, j, none⟩ = false := fun j => by rw [hW2, ← hWs]; exact World.frozen?_alloc_at _ _ _ _ rfl
  have hxW2 : Ext W W2 := by rw [hW2]; exact (Ext.refl _).alloc _
  have hx2 : Ext w W2 := Ext.trans (by rw [hW]; exact (Ext.refl _).alloc _) hxW2
  have x0 := hxW2.keeps _ _ p0; have x1 := hxW2.keeps _ _ p1; have x2 := hxW2.keeps _ _ p2
  have hb2 : w.heap.size + 1 < W2.heap.size := by omega
  have hW3 : W2 = (w.alloc (.cells #[Bv fr, .slice WA wn wc, .slice OA on oc] 59)).alloc (.cells #[.bool false, .slice none 0 0, .slice none 0 0] 59) := by rw [hW2, hW]
  have CK := Lib.hid (rCheckRest_any PA n pc p fr WA wn wc OA on oc r W2 (hp.keep hx2.keeps) (hr.keep hx2.keeps) hn)
  have HP0 := Lib.hid hp; have HR0 := Lib.hid hr
  have HW := Lib.hid hW3; have HP := Lib.hid (hp.keep hx2.keeps); have HR := Lib.hid (hr.keep hx2.keeps); have HX2 := Lib.hid hx2
  clear hp hr hW hW2 hxW2 p0 p1 p2 hsz hsz2 hWs hW3 hx2
  by_cases h0 : checkR p r ≠ 0
  · rw [if_pos h0] at hM
    have HM := Lib.hid hM; clear hM
    go_enter Try.func30, Try.ntmps30
    go_wp2_with fail
    rw [← HW.out]
    go_wp2_with fail
    refine CK.out.mono ?_; rintro e w1 ⟨rfl, hx1⟩
    have z0 := hx1.keeps _ _ y0; have z1 := hx1.keeps _ _ y1; have z2 := hx1.keeps _ _ y2
    have ff : ∀ j, w1.frozen? ⟨w.heap.size + 1, j, none⟩ = false := fun j => by rw [World.frozen?_of_block (a := ⟨w.heap.size + 1, j, none⟩) (hx1.block _ hb2)]; exact f1 j
    go_wp2
    refine bodyPost_ret (v := Pr3 (restV false none 0 0 none 0 0) (Bv false) (I (checkR p r))) (by simp [results, Try.results30, go_sem, z0, z1, z2]) rfl ⟨false, none, 0, 0, none, 0, 0, by rw [← HM.out], by rw [← HM.out]; exact RestC.zero _, NewA.no _, NewA.no _, ?_⟩
    exact (((HX2.out.trans hx1).setCell (by show w.heap.size ≤ w.heap.size + 1; omega) _).setCell (by show w.heap.size ≤ w.heap.size + 1; omega) _).setCell (by show w.heap.size ≤ w.heap.size + 1; omega) _
  rw [if_neg h0] at hM
  have h00 : checkR p r = 0 := by simpa using h0
  have H00 := Lib.hid h00
  obtain ⟨k1, k2, k3, -⟩ := checkR_ok h00
  have k4 := checkR_waits h00
  clear h0 h00
  by_cases h1 : ins < 0 ∨ 8 ≤ ins
  · rw [if_pos h1] at hM
    have HM := Lib.hid hM
    have hq : (decide ((0 : Int) ≤ ins) && decide (ins ≤ 7)) = false := by simp; omega
    have HQ := Lib.hid hq
    clear hM h1 k1 k2 k3 k4 hq
    go_enter Try.func30, Try.ntmps30
    go_wp2_with fail
    rw [← HW.out]
    go_wp2_with fail
    refine CK.out.mono ?_; rintro e w1 ⟨rfl, hx1⟩; rw [H00.out]
    have z0 := hx1.keeps _ _ y0; have z1 := hx1.keeps _ _ y1; have z2 := hx1.keeps _ _ y2
    have ff : ∀ j, w1.frozen? ⟨w.heap.size + 1, j, none⟩ = false := fun j => by rw [World.frozen?_of_block (a := ⟨w.heap.size + 1, j, none⟩) (hx1.block _ hb2)]; exact f1 j
    go_wp2_with fail
    refine (power3 _).mono ?_; rintro e w' ⟨rfl, rfl⟩
    go_wp2_with fail
    refine (within_any' ins 0 7 _).mono ?_; rintro e w' ⟨rfl, rfl⟩; rw [HQ.out]
    go_wp2
    refine bodyPost_ret (v := Pr3 (restV false none 0 0 none 0 0) (Bv false) (I 3)) (by simp [results, Try.results30, go_sem, z0, z1, z2]) rfl ⟨false, none, 0, 0, none, 0, 0, by rw [← HM.out], by rw [← HM.out]; exact RestC.zero _, NewA.no _, NewA.no _, ?_⟩
    exact (((HX2.out.trans hx1).setCell (by show w.heap.size ≤ w.heap.size + 1; omega) _).setCell (by show w.heap.size ≤ w.heap.size + 1; omega) _).setCell (by show w.heap.size ≤ w.heap.size + 1; omega) _
  · rw [if_neg h1] at hM
    have j0 : 0 ≤ ins := by omega
    have j8 : ins < 8 := by omega
    have hq : (decide ((0 : Int) ≤ ins) && decide (ins ≤ 7)) = true := by simp; omega
    have HQ := Lib.hid hq
    obtain ⟨t1, t2, t3, t4⟩ := tree_of k1
    have hn14 : n ≤ 14 := by rw [← hpl, t2, flat_size]; exact t3
    have hwn : wn = n := by have := HR.out.waits.len; omega
    have hon : on = 3 := by have := HR.out.outs.len; omega
    subst hwn; subst hon
    have htz : (treeOf p).size = wn := by rw [← flat_size, ← t2]; exact hpl
    have hK : p.any badKind = false := (checkP_ok k1).2.1
    have mk : ∀ (wX : World) (g1 g2 g3 ic : Nat), Ext W2 wX → w.heap.size + 2 ≤ g1 → w.heap.size + 2 ≤ g2 → g1 ≠ g2 → g3 ≠ g1 → g3 ≠ g2 → g1 < wX.heap.size → g2 < wX.heap.size → g3 < wX.heap.size →
        wX.ownsRow w.heap.size 4 1 (.slice (some ⟨g1, 0, none⟩) wn wn) wn ((List.replicate wn false).map Bv) → wX.ownsRow w.heap.size 4 1 (.slice (some ⟨g2, 0, none⟩) 3 3) 3 (([false, false, false] : List Bool).map Bv) → (∀ j x, (bitsM ins 3)[j]? = some x → wX.cell? ⟨g3, j, none⟩ = some (I x)) →
        ∀ Q, Q = wX.alloc (.cells #[.slice PA wn pc, Bv fr, .slice WA wn wc, .slice OA 3 oc, .slice (some ⟨g3, 0, none⟩) 3 ic, .bool false, .slice (some ⟨g1, 0, none⟩) wn wn, .slice (some ⟨g2, 0, none⟩) 3 3] 131) →
          RSt w wX.heap.size g1 g2 g3 PA wn pc fr WA wc OA oc ic ins Q ⟨List.replicate wn false, [false, false, false]⟩ ∧ Ext W2 Q := fun wX g1 g2 g3 ic hx a1 a2 a3 a4 a5 b1 b2 b3 hW hO hB Q hQ => by
      subst hQ
      have ha : Ext wX (wX.alloc (.cells #[.slice PA wn pc, Bv fr, .slice WA wn wc, .slice OA 3 oc, .slice (some ⟨g3, 0, none⟩) 3 ic, .bool false, .slice (some ⟨g1, 0, none⟩) wn wn, .slice (some ⟨g2, 0, none⟩) 3 3] 131)) := (Ext.refl wX).alloc _
      have hsX := hx.size
      refine ⟨⟨HX2.out.trans (hx.trans ha), by omega, by omega, by omega, by omega, by omega, a3, a4, a5, ?_, ?_, ?_, ?_, ?_, ?_, ?_, ?_, fun j x hj => ha.keeps _ _ (hB j x hj), own_ext hW ha, own_ext hO ha⟩, hx.trans ha⟩
      all_goals (rw [World.cell?_alloc_new]; rfl)
    have tl : ∀ (b g1 g2 g3 ic : Nat) (w2 : World) (st : StM), RSt w b g1 g2 g3 PA wn pc fr WA wc OA oc ic ins w2 st → w.heap.size + 2 ≤ g1 → w.heap.size + 2 ≤ g2 → (∃ Q, Ext W2 Q ∧ Off g1 g2 Q w2) →
        (w2.cell? ⟨w.heap.size + 1, 0, none⟩ = some (.bool false) ∧ w2.cell? ⟨w.heap.size + 1, 1, none⟩ = some (.slice none 0 0) ∧ w2.cell? ⟨w.heap.size + 1, 2, none⟩ = some (.slice none 0 0)) ∧ (∀ j, w2.frozen? ⟨w.heap.size + 1, j, none⟩ = false) ∧
        ∀ v0 v1 v2, RestC (((w2.setCell ⟨w.heap.size + 1, 0, none⟩ v0).setCell ⟨w.heap.size + 1, 1, none⟩ v1).setCell ⟨w.heap.size + 1, 2, none⟩ v2) false (some ⟨g1, 0, none⟩) wn wn (some ⟨g2, 0, none⟩) 3 3 ⟨false, st.W, st.O⟩ ∧
          Ext w (((w2.setCell ⟨w.heap.size + 1, 0, none⟩ v0).setCell ⟨w.heap.size + 1, 1, none⟩ v1).setCell ⟨w.heap.size + 1, 2, none⟩ v2) := fun b g1 g2 g3 ic w2 st hw a1 a2 ⟨Q, hQ, ho⟩ => by
      have n1 : w.heap.size + 1 ≠ g1 := by omega
      have n2 : w.heap.size + 1 ≠ g2 := by omega
      have hR : RestC w2 false (some ⟨g1, 0, none⟩) wn wn (some ⟨g2, 0, none⟩) 3 3 ⟨false, st.W, st.O⟩ := by
        obtain ⟨A, c, e, -, -, s1⟩ := own_sl hw.W
        injection e with e _ _; subst e
        obtain ⟨A, c, e, -, -, s2⟩ := own_sl hw.O
        injection e with e _ _; subst e
        exact ⟨rfl, s1, s2, ⟨Nat.le_refl _, by unfold maxLen; omega⟩, ⟨Nat.le_refl _, by unfold maxLen; omega⟩⟩
      refine ⟨⟨ho.cell (hQ.keeps _ _ y0) n1 n2, ho.cell (hQ.keeps _ _ y1) n1 n2, ho.cell (hQ.keeps _ _ y2) n1 n2⟩, fun j => ?_, fun v0 v1 v2 => ⟨((hR.far n1 n2 _).far n1 n2 _).far n1 n2 _, ?_⟩⟩
      · have e1 : w2.heap[w.heap.size + 1]? = Q.heap[w.heap.size + 1]? := ho.block _ (Nat.lt_of_lt_of_le hb2 hQ.size) n1 n2
        have e2 : Q.heap[w.heap.size + 1]? = W2.heap[w.heap.size + 1]? := hQ.block _ hb2
        rw [World.frozen?_of_block (a := ⟨w.heap.size + 1, j, none⟩) (e1.trans e2)]; exact f1 j
      · exact ((hw.ext.setCell (by show w.heap.size ≤ w.heap.size + 1; omega) _).setCell (by show w.heap.size ≤ w.heap.size + 1; omega) _).setCell (by show w.heap.size ≤ w.heap.size + 1; omega) _
    have MK := Lib.hid mk; have TL := Lib.hid tl; clear mk tl
    have BT := bits3 ins j0 j8
    simp only [turnR, turnM, HR.out.fresh, htz] at hM
    have T1 := Lib.hid t1; have T2 := Lib.hid t2; have T4 := Lib.hid t4; have K4 := Lib.hid k4; have HTZ := Lib.hid htz; have HKK := Lib.hid hK
    have HM := Lib.hid hM
    clear hM h1 hq t1 t2 t3 t4 k1 k2 k3 k4 htz hK y0 y1 y2
    go_enter Try.func30, Try.ntmps30
    go_wp2_with fail
    rw [← HW.out]
    go_wp2_with fail
    refine CK.out.mono ?_; rintro e w1 ⟨rfl, hx1⟩; rw [H00.out]
    have v0 := hx1.keeps _ _ x0; have v1 := hx1.keeps _ _ x1; have v2 := hx1.keeps _ _ x2
    have hs1 : w.heap.size + 1 < w1.heap.size := Nat.lt_of_lt_of_le hb2 hx1.size
    go_wp2_with fail
    refine (power3 _).mono ?_; rintro e w' ⟨rfl, rfl⟩
    go_wp2_with fail
    refine (within_any' ins 0 7 _).mono ?_; rintro e w' ⟨rfl, rfl⟩; rw [HQ.out]
    go_wp2_with fail
    go_region_held3 (fun w' => w'.cell? ⟨w.heap.size, 0, none⟩ = some (Bv fr) ∧ w'.cell? ⟨w.heap.size, 1, none⟩ = some (.slice WA wn wc) ∧ w'.cell? ⟨w.heap.size, 2, none⟩ = some (.slice OA 3 oc))
      (first | exact ⟨xb.keeps _ _ v0, xb.keeps _ _ v1, xb.keeps _ _ v2⟩ | exact ⟨xf.keeps _ _ v0, xf.keeps _ _ v1, xf.keeps _ _ v2⟩ | exact ⟨(xb.trans xf).keeps _ _ v0, (xb.trans xf).keeps _ _ v1, (xb.trans xf).keeps _ _ v2⟩ | exact ⟨(xf.trans xb).keeps _ _ v0, (xf.trans xb).keeps _ _ v1, (xf.trans xb).keeps _ _ v2⟩ | go_keep)
      (first | (go_at_call 71; (with_reducible refine (BT _).mono ?_); rintro e wz ⟨g3, ic, rfl, hg3, hg3', hB, xb⟩) | (go_at_call 29; (with_reducible refine (rfresh_any PA wn pc _ hn14).mono ?_); rintro e wz ⟨g1, g2, rfl, hg1, hg2, hne, hW, hO, xf⟩))
    all_goals
      have hx : Ext w1 wz := by first | exact (((Ext.refl w1).drew).trans xb).trans xf | exact (((Ext.refl w1).drew).trans xf).trans xb
      have hBz : ∀ j x, (bitsM ins 3)[j]? = some x → wz.cell? ⟨g3, j, none⟩ = some (I x) := by first | exact hB | exact fun j x h => xf.keeps _ _ (hB j x h)
      have s1 := xb.size; have s2 := xf.size
      have s3 : w1.drew.heap.size = w1.heap.size := rfl
      have a1 := (hW.lt g1 rfl).2; have a2 := (hO.lt g2 rfl).2
      have hWz : wz.ownsRow w.heap.size 4 1 (.slice (some ⟨g1, 0, none⟩) wn wn) wn ((List.replicate wn false).map Bv) := by first | exact own_base hW (by omega) | exact own_base (own_ext hW xb) (by omega)
      have hOz : wz.ownsRow w.heap.size 4 1 (.slice (some ⟨g2, 0, none⟩) 3 3) 3 (([false, false, false] : List Bool).map Bv) := by first | exact own_base hO (by omega) | exact own_base (own_ext hO xb) (by omega)
      have mk := MK.out wz g1 g2 g3 ic (hx1.trans hx) (by omega) (by omega) hne (by omega) (by omega) (by omega) (by omega) (by omega) hWz hOz hBz
      have z0 := hx.keeps _ _ v0
      have b1 : w.heap.size + 2 ≤ g1 := by omega
      have b2 : w.heap.size + 2 ≤ g2 := by omega
      have hwz : w.heap.size < wz.heap.size := by omega
      have MKz := Lib.hid mk; have B1 := Lib.hid b1; have B2 := Lib.hid b2
      clear mk b1 b2 s1 s2 s3 a1 a2 hWz hOz hBz hx hB xb xf hW hO hg1 hg2 hg3 hg3' v0 v1 v2 hne
    all_goals
      cases fr
      · cases hsome : someT r.waits (treeOf p) 0
        · have hm := HM.out
          simp only [hsome, Bool.false_eq_true, if_false] at hm
          have HM1 := Lib.hid hm; have HSO := Lib.hid hsome; clear hm hsome HM
          go_wp2_with fail
          obtain ⟨hw, hxq⟩ := MKz.out _ rfl
          refine (rsome_any w wz.heap.size g1 g2 g3 PA wn pc false WA wc OA oc ic ins p r.waits _ _ hw HP0.out HR0.out.waits hn14 HKK.out 0 (treeOf p) (by have := TreeAt.root (treeOf p); rwa [← T2.out] at this) T1.out).mono ?_; rintro e w2 ⟨rfl, rfl⟩; rw [HSO.out]
          generalize hW2 : wz.alloc (.cells #[.slice PA wn pc, Bv false, .slice WA wn wc, .slice OA 3 oc, .slice (some ⟨g3, 0, none⟩) 3 ic, .bool false, .slice (some ⟨g1, 0, none⟩) wn wn, .slice (some ⟨g2, 0, none⟩) 3 3] 131) = w2 at *
          have HXQ := Lib.hid hxq; have hs2 := hw; have o2 := Off.refl g1 g2 w2; clear hxq hw hW2
          have HS2 := Lib.hid hs2; have HO2 : Hid (∃ Q, Ext W2 Q ∧ Off g1 g2 Q w2) := ⟨_, HXQ.out, o2⟩; clear hs2 o2
          obtain ⟨⟨y0, y1, y2⟩, yf, yr⟩ := TL.out _ _ _ _ _ w2 _ HS2.out B1.out B2.out HO2.out
          have c5 := HS2.out.c5; have c6 := HS2.out.c6; have c7 := HS2.out.c7
          have YR := Lib.hid yr; clear yr
          go_wp2
          refine bodyPost_ret (v := Pr3 (restV false (some ⟨g1, 0, none⟩) wn wn (some ⟨g2, 0, none⟩) 3 3) (Bv false) (I 0)) (by simp [results, Try.results30, go_sem, y0, y1, y2]) rfl ⟨false, some ⟨g1, 0, none⟩, wn, wn, some ⟨g2, 0, none⟩, 3, 3, by rw [← HM1.out], by rw [← HM1.out]; exact (YR.out _ _ _).1, NewA.at (by have := B1.out; omega), NewA.at (by have := B2.out; omega), (YR.out _ _ _).2⟩
        · have hm := HM.out
          simp only [hsome, if_true, Bool.false_eq_true, if_false] at hm
          have HM1 := Lib.hid hm; have HSO := Lib.hid hsome; clear hm hsome HM
          go_wp2_with fail
          obtain ⟨hw, hxq⟩ := MKz.out _ rfl
          refine (rsome_any w wz.heap.size g1 g2 g3 PA wn pc false WA wc OA oc ic ins p r.waits _ _ hw HP0.out HR0.out.waits hn14 HKK.out 0 (treeOf p) (by have := TreeAt.root (treeOf p); rwa [← T2.out] at this) T1.out).mono ?_; rintro e w2 ⟨rfl, rfl⟩; rw [HSO.out]
          have HS0 := Lib.hid hw; have HXQ := Lib.hid hxq; clear hw hxq
          go_wp2_with fail
          refine (ron_any w wz.heap.size g1 g2 g3 PA wn pc false WA wc OA oc ic ins p r.outs r.waits HP0.out HR0.out.outs HR0.out.waits hn14 HKK.out K4.out (treeOf p) 0 (by have := TreeAt.root (treeOf p); rwa [← T2.out] at this) T1.out T4.out _ _ HS0.out HSO.out (fun j _ _ => rep_false _ _)).mono ?_; rintro e w2 ⟨rfl, hs2, o2⟩
          have HS2 := Lib.hid hs2; have HO2 : Hid (∃ Q, Ext W2 Q ∧ Off g1 g2 Q w2) := ⟨_, HXQ.out, o2⟩; clear hs2 o2
          obtain ⟨⟨y0, y1, y2⟩, yf, yr⟩ := TL.out _ _ _ _ _ w2 _ HS2.out B1.out B2.out HO2.out
          have c5 := HS2.out.c5; have c6 := HS2.out.c6; have c7 := HS2.out.c7
          have YR := Lib.hid yr; clear yr
          go_wp2
          refine bodyPost_ret (v := Pr3 (restV false (some ⟨g1, 0, none⟩) wn wn (some ⟨g2, 0, none⟩) 3 3) (Bv (onT (thereM ins) (wasM r.outs) r.waits (treeOf p) 0 ⟨List.replicate wn false, [false, false, false]⟩).1) (I 0)) (by simp [results, Try.results30, go_sem, y0, y1, y2]) rfl ⟨false, some ⟨g1, 0, none⟩, wn, wn, some ⟨g2, 0, none⟩, 3, 3, by rw [← HM1.out], by rw [← HM1.out]; exact (YR.out _ _ _).1, NewA.at (by have := B1.out; omega), NewA.at (by have := B2.out; omega), (YR.out _ _ _).2⟩
      · have hm := HM.out
        simp only [if_true] at hm
        have HM1 := Lib.hid hm; clear hm HM
        go_wp2_with fail
        obtain ⟨hw, hxq⟩ := MKz.out _ rfl
        refine (rbegin_any w wz.heap.size g1 g2 g3 PA wn pc true WA wc OA oc ic ins p r.outs HP0.out HR0.out.outs hn14 HKK.out (treeOf p) 0 (by have := TreeAt.root (treeOf p); rwa [← T2.out] at this) T1.out T4.out _ _ hw).mono ?_; rintro e w2 ⟨rfl, hs2, o2⟩
        have HXQ := Lib.hid hxq; clear hxq hw
        have HS2 := Lib.hid hs2; have HO2 : Hid (∃ Q, Ext W2 Q ∧ Off g1 g2 Q w2) := ⟨_, HXQ.out, o2⟩; clear hs2 o2
        obtain ⟨⟨y0, y1, y2⟩, yf, yr⟩ := TL.out _ _ _ _ _ w2 _ HS2.out B1.out B2.out HO2.out
        have c5 := HS2.out.c5; have c6 := HS2.out.c6; have c7 := HS2.out.c7
        have YR := Lib.hid yr; clear yr
        go_wp2
        refine bodyPost_ret (v := Pr3 (restV false (some ⟨g1, 0, none⟩) wn wn (some ⟨g2, 0, none⟩) 3 3) (Bv (beginT (thereM ins) (wasM r.outs) (treeOf p) 0 ⟨List.replicate wn false, [false, false, false]⟩).1) (I 0)) (by simp [results, Try.results30, go_sem, y0, y1, y2]) rfl ⟨false, some ⟨g1, 0, none⟩, wn, wn, some ⟨g2, 0, none⟩, 3, 3, by rw [← HM1.out], by rw [← HM1.out]; exact (YR.out _ _ _).1, NewA.at (by have := B1.out; omega), NewA.at (by have := B2.out; omega), (YR.out _ _ _).2⟩
end Go.Proofs.Ytlafiddfplhafaa
/- SameRests, Told. -/
namespace Go.Proofs.Ytlafiddfplhafaa
set_option linter.unusedVariables false
set_option linter.unusedSimpArgs false
open Go.RowKit
def toldB (b : Bool) : Int := if b then 1 else 0
set_option maxHeartbeats 1000000 in
theorem rTold_any (A : Option Addr) (n c : Nat) (xs : List Bool) (w : World) (h : Sl w A n (xs.map Bv)) (hn : n ≤ 1000) :
    Calls Try.prog 31 #[.slice A n c] w fun e w' => ∃ v, e = .returned v ∧ w'.ownsRow w.heap.size 3 1 v n ((xs.map toldB).map I) ∧ Ext w w' := by
  have H := Lib.hid h; clear h
  go_enter Try.func31, Try.ntmps31
  go_wp2
  go_loopw [3, 4] (fun v i wr => ∃ (k : Nat) (zs : List Int), k ≤ n ∧ i = .int .i64 k ∧ Ext w wr ∧ wr.ownsRow w.heap.size 3 1 v k (zs.map I) ∧ zs ++ (xs.drop k).map toldB = xs.map toldB) (fun _ i _ => n - (intOf i).toNat)
  case atStart => exact ⟨0, [], Nat.zero_le _, rfl, Ext.refl _, World.ownsRow_nil _ _ _ _, rfl⟩
  case round =>
    obtain ⟨k, zs, hk, rfl, hext, hown, hM⟩ := hrel
    by_cases hlt : k < n
    · obtain ⟨b, off, x, rfl, hc0, hx⟩ := H.out.at_ hlt
      have hc := hext.keeps _ _ hc0
      have hl := (List.getElem?_eq_some_iff.1 hx).1
      have hd : xs.drop k = x :: xs.drop (k + 1) := by
        rw [List.drop_eq_getElem_cons hl]; congr 1; rw [List.getElem?_eq_getElem hl] at hx; injection hx
      have hb := lt_of_cell hc
      rw [hd, List.map_cons] at hM
      have HM := Lib.hid hM; have HO := Lib.hid hown
      clear hM hown hd hx hc0
      cases x
      · go_wp2_with (at_builtin; refine wpList_push rfl (.tmp 18) (.tmp 19) 23 3 rfl tab_int' Try.underlying23 rfl (by omega) w wr hext _ k _ rfl HO.out [I 0] rfl rfl rfl (by simp [Value.oneCell']) (by unfold maxLen; omega) (by omega) ?_; intro v' w2 hown2 hx3 _)
        go_roundw
        case rel => exact ⟨k + 1, zs ++ [0], by omega, by go_num, hx3, by simpa using hown2, by rw [← HM.out]; simp [toldB]⟩
        case measure => simp [intOf]; omega
      · go_wp2_with (at_builtin; refine wpList_push rfl (.tmp 15) (.tmp 16) 23 3 rfl tab_int' Try.underlying23 rfl (by omega) w wr hext _ k _ rfl HO.out [I 1] rfl rfl rfl (by simp [Value.oneCell']) (by unfold maxLen; omega) (by omega) ?_; intro v' w2 hown2 hx3 _)
        go_roundw
        case rel => exact ⟨k + 1, zs ++ [1], by omega, by go_num, hx3, by simpa using hown2, by rw [← HM.out]; simp [toldB]⟩
        case measure => simp [intOf]; omega
    · have hxn : xs.drop k = [] := List.drop_eq_nil_of_le (by have := H.out.len; omega)
      have hkn : k = n := by omega
      subst hkn
      have hz : zs = xs.map toldB := by rw [← hM, hxn]; simp
      subst hz
      have HO := Lib.hid hown
      clear hM hown
      go_wp2
      go_ret
      exact ⟨_, rfl, HO.out, hext⟩
end Go.Proofs.Ytlafiddfplhafaa
/- The reference's PlayedOf. -/
namespace Go.Proofs.Ytlafiddfplhafaa
set_option linter.unusedVariables false
set_option linter.unusedSimpArgs false
open Go.RowKit
theorem Sl.grown' {w w' : World} {row : Option Nat} {A : Option Addr} {n : Nat} {cs : List Value} (h : Sl w A n cs) (hg : w.grownBy w' row) (hne : ∀ a, A = some a → row ≠ some a.block) : Sl w' A n cs :=
  ⟨h.1, fun k u hu => by
    obtain ⟨b', off', e, hc⟩ := h.2 k u hu
    exact ⟨_, _, e, (hg.cell_far _ (lt_of_cell hc) (fun e' => hne _ e e'.symm)).trans hc⟩⟩
theorem RestC.grown' {w w' : World} {row : Option Nat} {fr : Bool} {WA OA : Option Addr} {wn wc on oc : Nat} {r : RestM} (h : RestC w fr WA wn wc OA on oc r) (hg : w.grownBy w' row) (h1 : ∀ a, WA = some a → row ≠ some a.block) (h2 : ∀ a, OA = some a → row ≠ some a.block) :
    RestC w' fr WA wn wc OA on oc r :=
  ⟨h.fresh, h.waits.grown' hg h1, h.outs.grown' hg h2, h.wl, h.ol⟩
theorem step_turn {p : List PNode} {r : RestM} {x : Int} (h : checkR p r = 0) (h0 : 0 ≤ x) (h8 : x < 8) : stepM p r x = (turnR (treeOf p) r x, (turnM (treeOf p) r x).1, 0) := by
  unfold stepM; rw [if_neg (by simpa using h), if_neg (by omega)]
theorem fresh_check {p : List PNode} (h : checkP p = 0) : checkR p (freshM p.length) = 0 := by
  unfold checkR
  rw [if_neg (by simpa using h), if_neg (by simp [freshM])]
  rw [if_neg]
  simp only [Bool.not_eq_true, List.any_eq_false, Bool.and_eq_true, not_and]
  intro y hy h1
  have := (List.of_mem_zip hy).1
  simp [freshM] at this
  rw [this.2] at h1; cases h1
set_option maxHeartbeats 8000000 in
set_option maxRecDepth 100000 in
theorem playedOf_any (A : Option Addr) (n c : Nat) (p : List PNode) (B : Option Addr) (m d : Nat) (l : List Int) (w : World) (h : SlN w A n p) (hn : n ≤ maxLen) (hl : Sl w B m (l.map I)) (hm : m ≤ maxLen) :
    Calls Try.prog 9 #[.slice A n c, .slice B m d] w fun e w' => ∃ v vs, e = .returned (Pr v (I (runErr p l))) ∧ OwnRows 23 3 w' w.heap.size v (runRows p l) vs ∧ Ext w w' := by
  by_cases hc : checkP p = 0
  · by_cases ht : timesM l 3 = 0
    · have he : runErr p l = 0 := by unfold runErr; rw [if_pos hc, ht]
      have hrr : runRows p l = runsT (treeOf p) (freshM p.length) l := by
        obtain ⟨t1, t2, t3, t4⟩ := tree_of hc
        have hpl : p.length = (treeOf p).size := by rw [← flat_size, ← t2]
        rw [runRows, if_pos he, hpl]
      have hm64 : m ≤ 64 := by have := (timesM_rangeF ht).1; have := hl.len; omega
      have hn14 : n ≤ 14 := by have := (checkP_ok hc).1; rw [h.1] at this; exact this
      rw [he, hrr]
      have hpl := h.1
      have H := Lib.hid h; have HC := Lib.hid hc; have HNM := Lib.hid hn; have HMM := Lib.hid hm; have HL := Lib.hid hl; have HY := Lib.hid ht; have HN14 := Lib.hid hn14; have HM := Lib.hid hm64; have HPL := Lib.hid hpl
      clear h hc hn hm hl ht hn14 hm64 he hrr hpl
      go_enter Try.func9, Try.ntmps9
      go_wp2_with fail
      refine (rcheck_any' A n c p w H.out HNM.out).mono ?_; rintro e w1 ⟨rfl, rfl⟩; rw [HC.out]
      go_wp2_with fail
      refine (timesError_any B m d l 3 w HL.out HMM.out (by omega)).mono ?_; rintro e w2 ⟨rfl, x2⟩; rw [HY.out]
      have X2 := Lib.hid x2; clear x2
      go_wp2_with fail
      refine (rfresh_any A n c w2 HN14.out).mono ?_; rintro e w3 ⟨g1, g2, rfl, h1, h2, h3, h4, h5, x3⟩
      have X3 := Lib.hid (X2.out.trans x3); have O1 := Lib.hid h4; have O2 := Lib.hid h5
      clear h1 h2 h3 h4 h5 x3
      go_wp2_with fail
      obtain ⟨w4, hw4⟩ : ∃ q, q = w3.alloc (.cells #[Bv true, .slice (some ⟨g1, 0, none⟩) n n, .slice (some ⟨g2, 0, none⟩) 3 3] 59) := ⟨_, rfl⟩
      have hx4 : Ext w3 w4 := by rw [hw4]; exact (Ext.refl _).alloc _
      have hb4 : Box w4 w3.heap.size 59 [Bv true, .slice (some ⟨g1, 0, none⟩) n n, .slice (some ⟨g2, 0, none⟩) 3 3] := by rw [hw4]; exact Box.new w3 _ _
      have hr4 : RestC w4 true (some ⟨g1, 0, none⟩) n n (some ⟨g2, 0, none⟩) 3 3 (freshM p.length) := by
        obtain ⟨A1, c1, e1, -, -, s1⟩ := own_sl (own_ext O1.out hx4)
        obtain ⟨A2, c2, e2, -, -, s2⟩ := own_sl (own_ext O2.out hx4)
        injection e1 with e1 _ _; subst e1
        injection e2 with e2 _ _; subst e2
        exact ⟨rfl, by rw [HPL.out]; exact s1, s2, ⟨Nat.le_refl _, HNM.out⟩, ⟨Nat.le_refl _, by unfold maxLen; omega⟩⟩
      have HX4 := Lib.hid (X3.out.trans hx4); have HB4 := Lib.hid hb4; have HR4 := Lib.hid hr4
      rw [← hw4]
      clear hw4 hx4 hb4 hr4
      go_loopw [10, 8] (fun j v9 wr => ∃ (k : Nat) (fr : Bool) (WA : Option Addr) (wn wk : Nat) (OA : Option Addr) (on oc : Nat) (A9 : Option Addr) (c9 : Nat) (r : RestM) (rows : List (List Int)) (vs : List Value), k ≤ m ∧ j = .int .i64 k ∧ v9 = .slice A9 k c9 ∧ Ext w wr ∧ Box wr w3.heap.size 59 [Bv fr, .slice WA wn wk, .slice OA on oc] ∧ RestC wr fr WA wn wk OA on oc r ∧ checkR p r = 0 ∧
        rows.length = k ∧ OwnRows 23 3 wr w.heap.size (.slice A9 k c9) rows vs ∧ rows ++ runsT (treeOf p) r (l.drop k) = runsT (treeOf p) (freshM p.length) l) (fun j _ _ => m - (intOf j).toNat)
      case atStart => exact ⟨0, true, some ⟨g1, 0, none⟩, n, n, some ⟨g2, 0, none⟩, 3, 3, none, 0, freshM p.length, [], [], Nat.zero_le _, rfl, rfl, HX4.out, HB4.out, HR4.out, fresh_check HC.out, rfl, OwnRows.nil _ _ _ _, by simp⟩
      case round =>
        obtain ⟨k, fr, WA, wn, wk, OA, on, oc, A9, c9, r, rows, vs, hk, rfl, rfl, hext, hbx, hrc, hck, hrl, hown, hmod⟩ := hrel
        by_cases hlt : k < m
        · obtain ⟨vb, vo, x, rfl, hv0, hvx⟩ := HL.out.at_ hlt
          have hv1 := hext.keeps _ _ hv0
          have hx8 := (timesM_rangeF HY.out).2 x (List.mem_of_getElem? hvx)
          have hst := step_turn hck hx8.1 (by simpa using hx8.2)
          have hm64 : m ≤ 64 := HM.out
          have z0 := hbx.cell 0; have z1 := hbx.cell 1; have z2 := hbx.cell 2
          have fz := hbx.free
          simp only [List.getElem?_cons_zero, List.getElem?_cons_succ] at z0 z1 z2
          have hd := (Ext.refl wr).drew
          have T := Lib.hid (walkOf_any A n c p fr WA wn wk OA on oc r x wr.drew (H.out.keep (hext.trans hd).keeps) (hrc.keep hd.keeps) HNM.out)
          have hck' : checkR p (turnR (treeOf p) r x) = 0 := by have := step_ok (p := p) (r := r) (ins := x) (by rw [hst]); rw [hst] at this; exact this.1
          have HEX := Lib.hid hext; have HBX := Lib.hid (hbx.ext hd); have HRL := Lib.hid hrl; have HOWN := Lib.hid hown; have HMOD := Lib.hid hmod; have HVX := Lib.hid hvx; have HCK := Lib.hid hck'; have HST := Lib.hid hst
          clear hvx hx8 hext hbx hrc hrl hown hmod hck hck' hst hd
          go_upto_region 12 with fail
          go_cut [] (fun wx => ∃ (fr' : Bool) (WA' : Option Addr) (wn' wk' : Nat) (OA' : Option Addr) (on' oc' : Nat), Box wx w3.heap.size 59 [Bv fr', .slice WA' wn' wk', .slice OA' on' oc'] ∧ RestC wx fr' WA' wn' wk' OA' on' oc' (turnR (treeOf p) r x) ∧ NewA wr WA' ∧ NewA wr OA' ∧ Ext w wx ∧ OwnRows 23 3 wx w.heap.size (.slice A9 k c9) rows vs)
          case first =>
            have hlt9 := HBX.out.lt
            have T2 := T.out.mono (R' := fun e w' => RestB wr.drew w' e (stepM p r x).1 (stepM p r x).2.1 (stepM p r x).2.2 ∧ (w'.cell? ⟨w3.heap.size, 0, none⟩ = some (Bv fr) ∧ w'.cell? ⟨w3.heap.size, 1, none⟩ = some (.slice WA wn wk) ∧ w'.cell? ⟨w3.heap.size, 2, none⟩ = some (.slice OA on oc) ∧ ∀ j, w'.frozen? ⟨w3.heap.size, j, none⟩ = false) ∧ Hid (Box w' w3.heap.size 59 [Bv fr, .slice WA wn wk, .slice OA on oc])) (fun e w' h => ⟨h, by
              obtain ⟨_, _, _, _, _, _, _, _, _, _, _, hx⟩ := h
              have hb := HBX.out.ext hx
              exact ⟨⟨(hb.cell 0).trans rfl, (hb.cell 1).trans rfl, (hb.cell 2).trans rfl, hb.free⟩, hb⟩⟩)
            rw [HST.out] at T2
            have hvb : w3.heap.size ≠ vb := by
              have h1 : vb < w.heap.size := lt_of_cell (p := ⟨vb, vo + k, none⟩) hv0
              have h2 := X3.out.size
              omega
            go_region_with
              (first | (go_at_call 30; (with_reducible refine T2.mono ?_); rintro e wz ⟨⟨fr', WA', wn', wk', OA', on', oc', rfl, hrc', hn1, hn2, xz⟩, ⟨y0, y1, y2, yf⟩, hby⟩))
            all_goals go_wp2_with fail
            all_goals go_meet
            all_goals
              have hsz := HBX.out.lt
              have d1 : ∀ a, WA' = some a → w3.heap.size ≠ a.block := fun a ha => Nat.ne_of_lt (Nat.lt_of_lt_of_le hsz (hn1 a ha))
              have d2 : ∀ a, OA' = some a → w3.heap.size ≠ a.block := fun a ha => Nat.ne_of_lt (Nat.lt_of_lt_of_le hsz (hn2 a ha))
              have hb := hby.out
              have hz : Ext w wz := (HEX.out.drew).trans xz
              have hbase := X3.out.size
              have ho := HOWN.out.ext (((Ext.refl wr).drew).trans xz)
              refine ⟨fr', WA', wn', wk', OA', on', oc', ((hb.set 0 _).set 1 _).set 2 _, ((hrc'.far' d1 d2 _).far' d1 d2 _).far' d1 d2 _, hn1, hn2, ?_, ?_⟩
              · exact ((hz.setCell (p := ⟨w3.heap.size, 0, none⟩) hbase _).setCell (p := ⟨w3.heap.size, 1, none⟩) hbase _).setCell (p := ⟨w3.heap.size, 2, none⟩) hbase _
              · exact ((ho.setB hb 0 _).setB (hb.set 0 _) 1 _).setB ((hb.set 0 _).set 1 _) 2 _
          case rest =>
            obtain ⟨fr', WA', wn', wk', OA', on', oc', hbx, hrc, hn1, hn2, hxc, how⟩ := hcut
            have z0' := hbx.cell 0; have z1' := hbx.cell 1; have z2' := hbx.cell 2
            simp only [List.getElem?_cons_zero, List.getElem?_cons_succ] at z0' z1' z2'
            have hon : on' = 3 := by have := hrc.outs.len; rw [← this]; exact (turn_len (treeOf p) r x).2
            subst hon
            have HBY := Lib.hid hbx; have HRC := Lib.hid hrc; have HXC := Lib.hid hxc; have HOW := Lib.hid how
            have HNA : Hid (NewA wr WA' ∧ NewA wr OA') := ⟨hn1, hn2⟩
            clear hbx hrc hn1 hn2 hxc how T HBX z0 z1 z2 fz hv1 hv0
            go_wp2_with fail
            refine (rTold_any OA' 3 oc' (turnR (treeOf p) r x).outs wc HRC.out.outs (by omega)).mono ?_; rintro e w7 ⟨v, rfl, hown7, hx7⟩
            obtain ⟨VA, VC, rfl, -, -, -⟩ := own_sl hown7
            have HX7 := Lib.hid (HXC.out.trans hx7)
            have HOW7 := Lib.hid (HOW.out.ext hx7); have HBY7 := Lib.hid (HBY.out.ext hx7); have HRC7 := Lib.hid (HRC.out.keep hx7.keeps)
            have HN7 := Lib.hid (own_base hown7 HXC.out.size)
            have hm64' : m ≤ 64 := HM.out
            have HWR := Lib.hid HEX.out.size
            clear hx7 hown7 HXC HOW HBY HRC z0' z1' z2'
            go_wp2_with (at_builtin; refine wpList_push rfl (.tmp 40) (.tmp 44) 24 23 rfl tab_ints Try.underlying24 rfl (by omega) w w7 HX7.out (.slice A9 k c9) k vs rfl (by have := HOW7.out.row; rw [HRL.out] at this; exact this) [.slice VA 3 VC] rfl rfl rfl (by simp [Value.oneCell']) (by unfold maxLen; omega) (by omega) ?_; intro v' w8 hown8 hx8 hg8)
            have HOWN8 := Lib.hid hown8; have HX8 := Lib.hid hx8; have HG8 := Lib.hid hg8
            clear hown8 hx8 hg8
            go_roundw
            case rel =>
              obtain ⟨g9, cap9, e9⟩ : ∃ g9 cap9, v' = .slice g9 (k + 1) cap9 := by
                obtain ⟨A, c, e, -⟩ := own_slice HOWN8.out
                exact ⟨A, c, e⟩
              subst e9
              have hne : ∀ a : Addr, wr.heap.size ≤ a.block → (Value.slice A9 k c9).ownBlock ≠ some a.block := fun a ha e => by have := (HOWN.out.row.lt a.block e).2; omega
              refine ⟨k + 1, fr', WA', wn', wk', OA', 3, oc', g9, cap9, turnR (treeOf p) r x, rows ++ [(turnR (treeOf p) r x).outs.map bI], vs ++ [.slice VA 3 VC], by omega, by go_num, rfl, HX8.out, HBY7.out.kept HG8.out (HBY7.out.apart HOW7.out.row (by decide)), HRC7.out.grown' HG8.out (fun a ha => hne a (HNA.out.1 a ha)) (fun a ha => hne a (HNA.out.2 a ha)), HCK.out, by simp [HRL.out], ?_, ?_⟩
              · exact HOW7.out.push (by decide) (by rw [List.length_map, show (turnR (treeOf p) r x).outs.length = 3 from (turn_len (treeOf p) r x).2]; exact HN7.out) (by rw [HRL.out]; exact HOWN8.out) HG8.out
              · exact rows_app HMOD.out HVX.out
            case measure => simp [intOf]; omega
        · have hkm : k = m := by omega
          subst hkm
          have hlen : l.length = k := by have := HL.out.len; simpa using this
          rw [List.drop_eq_nil_of_le (by omega)] at hmod
          have hrows : rows = runsT (treeOf p) (freshM p.length) l := by simpa [runsT] using hmod
          rw [hrows] at hown
          have HX := Lib.hid hext; have HOWN := Lib.hid hown
          clear hext hbx hrc hrl hown hmod hlen hrows hck
          go_wp2
          exact bodyPost_ret (v := Pr (.slice A9 k c9) (I 0)) (by simp [results, Try.results9, go_sem]) rfl ⟨_, vs, rfl, HOWN.out, HX.out⟩
    · have he : runErr p l = timesM l 3 := by unfold runErr; rw [if_pos hc]
      have hrr : runRows p l = [] := by rw [runRows, if_neg (by rw [he]; exact ht)]
      rw [he, hrr]
      obtain ⟨y0, hy0⟩ : ∃ y0, y0 = timesM l 3 := ⟨_, rfl⟩
      rw [← hy0] at ht ⊢
      have H := Lib.hid h; have HC := Lib.hid hc; have HNM := Lib.hid hn; have HMM := Lib.hid hm; have HL := Lib.hid hl; have HY := Lib.hid hy0
      clear h hc hn hm hl hy0 he hrr
      go_enter Try.func9, Try.ntmps9
      go_wp2_with fail
      refine (rcheck_any' A n c p w H.out HNM.out).mono ?_; rintro e w1 ⟨rfl, rfl⟩; rw [HC.out]
      go_wp2_with fail
      refine (timesError_any B m d l 3 w HL.out HMM.out (by omega)).mono ?_; rintro e w2 ⟨rfl, x2⟩; rw [← HY.out]
      have X2 := Lib.hid x2; clear x2
      go_wp2
      exact bodyPost_ret (v := Pr (.slice none 0 0) (I y0)) (by simp [results, Try.results9, go_sem]) rfl ⟨_, [], rfl, OwnRows.nil _ _ _ _, X2.out⟩
  · have he : runErr p l = checkP p := by unfold runErr; rw [if_neg hc]
    have hrr : runRows p l = [] := by rw [runRows, if_neg (by rw [he]; exact hc)]
    rw [he, hrr]
    obtain ⟨y0, hy0⟩ : ∃ y0, y0 = checkP p := ⟨_, rfl⟩
    rw [← hy0] at hc ⊢
    have H := Lib.hid h; have HNM := Lib.hid hn; have HY := Lib.hid hy0
    clear h hn hy0 he hrr
    go_enter Try.func9, Try.ntmps9
    go_wp2_with fail
    refine (rcheck_any' A n c p w H.out HNM.out).mono ?_; rintro e w1 ⟨rfl, rfl⟩; rw [← HY.out]
    go_wp2
    exact bodyPost_ret (v := Pr (.slice none 0 0) (I y0)) (by simp [results, Try.results9, go_sem]) rfl ⟨_, [], rfl, OwnRows.nil _ _ _ _, Ext.refl _⟩
end Go.Proofs.Ytlafiddfplhafaa
/- The body of ForgeRuns, from the contracts. -/
namespace Go.Proofs.Ytlafiddfplhafaa
set_option linter.unusedVariables false
set_option linter.unusedSimpArgs false
open Go.RowKit
theorem waitsN_count (p : List PNode) : waitsN p = (waitsP p).countP id := by
  unfold waitsN waitsP
  rw [List.countP_map, List.countP_eq_length_filter]; rfl
theorem count_next {l : List Bool} {k : Nat} {b : Bool} (h : l[k]? = some b) : (l.drop k).countP id = (if b then 1 else 0) + (l.drop (k + 1)).countP id := by
  obtain ⟨hk, rfl⟩ := List.getElem?_eq_some_iff.1 h
  rw [List.drop_eq_getElem_cons hk, List.countP_cons]
  cases l[k] <;> simp; omega
set_option maxRecDepth 100000 in
set_option maxHeartbeats 8000000 in
theorem forgeRuns_walk (PA : Option Addr) (n pc : Nat) (p : List PNode) (B : Option Addr) (m d : Nat) (l : List Int) (w : World) (h : SlN w PA n p) (hn : n ≤ maxLen) (hl : Sl w B m (l.map I)) (hm : m ≤ maxLen) :
    Calls Try.prog 3 #[.slice PA n pc, .slice B m d] w fun e w' => e = .returned (.bool true) ∧ Ext w w' := by
  have HP := Lib.hid h; have HNM := Lib.hid hn; have HL := Lib.hid hl; have HMM := Lib.hid hm
  clear h hn hl hm
  by_cases hc : checkP p = 0
  · have hn14 : n ≤ 14 := by have := (checkP_ok hc).1; rw [HP.out.1] at this; exact this
    have HSZ : Hid (∀ Q, SlN Q PA n p → Calls Try.prog 8 #[.slice PA n pc] Q fun e w' => e = .returned (Pr3 (I (waitsN p : Int)) (I (n : Int)) (I 0)) ∧ Ext Q w') := fun Q hQ => by
      have := size_any PA n pc p Q hQ HNM.out
      rw [if_pos hc, if_pos hc, hc] at this; exact this
    have HCK : Hid (∀ Q, SlN Q PA n p → Calls Try.prog 10 #[.slice PA n pc] Q fun e w' => e = .returned (I 0) ∧ Q = w') := fun Q hQ => by
      have := rcheck_any' PA n pc p Q hQ HNM.out
      rw [hc] at this; exact this
    have HN14 := Lib.hid hn14
    clear hc hn14
    go_enter Try.func3, Try.ntmps3
    go_wp2_with fail
    refine (frun_any PA n pc p B m d l w HP.out HNM.out HL.out HMM.out).mono ?_; rintro e w1 ⟨v, vs, rfl, ho, x1⟩
    obtain ⟨A1, c1, rfl, n1, m1, hs1⟩ := ho.slice
    have X1 := Lib.hid x1; have S1 := Lib.hid hs1; have HC1 := Lib.hid (Nat.le_trans n1 m1); clear ho hs1 n1 m1 x1
    go_wp2_with fail
    refine (HSZ.out w1 (HP.out.keep X1.out.keeps)).mono ?_; rintro e w2 ⟨rfl, x2⟩
    have X2 := Lib.hid (X1.out.trans x2); have S2 := Lib.hid (S1.out.keep x2.keeps); clear x2 S1 X1
    go_wp2_with fail
    refine (playedOf_any PA n pc p B m d l w2 (HP.out.keep X2.out.keeps) HNM.out (HL.out.keep X2.out.keeps) HMM.out).mono ?_; rintro e w3 ⟨v, vs, rfl, ho, x3⟩
    obtain ⟨A3, c3, rfl, n3, m3, hs3⟩ := ho.slice
    have X3 := Lib.hid (X2.out.trans x3); have S3 := Lib.hid (S2.out.keep x3.keeps); have T3 := Lib.hid hs3; clear x3 S2 X2 ho hs3 n3 m3
    go_wp2_with fail
    refine (HCK.out w3 (HP.out.keep X3.out.keeps)).mono ?_; rintro e w4 ⟨rfl, rfl⟩
    generalize runRows p l = R at *
    generalize runErr p l = E at *
    go_wp2_with fail
    refine (rwaits_of PA n pc p w3 (HP.out.keep X3.out.keeps) HN14.out).mono ?_; rintro e w5 ⟨v, rfl, hown, x5⟩
    obtain ⟨WA, wc, rfl, h1, h2, hs⟩ := own_sl hown
    have X5 := Lib.hid (X3.out.trans x5); have S5 := Lib.hid (S3.out.keep x5.keeps); have T5 := Lib.hid (T3.out.keep x5.keeps); have SW := Lib.hid hs
    have hq14 : n ≤ 14 := HN14.out
    clear x5 S3 T3 X3 hown hs h1 h2
    go_wp2_with fail
    obtain ⟨wl, hwl⟩ : ∃ q, q = w5 := ⟨_, rfl⟩
    go_loopw [13, 16] (fun a i wr => ∃ (k q : Nat), k ≤ n ∧ q ≤ k ∧ i = .int .i64 k ∧ a = .int .i64 q ∧ wl = wr ∧ q + ((waitsP p).drop k).countP id = waitsN p) (fun _ i _ => n - (intOf i).toNat)
    case atStart => exact ⟨0, 0, Nat.zero_le _, Nat.zero_le _, rfl, rfl, hwl, by rw [waitsN_count]; simp⟩
    case round =>
      obtain ⟨k, q, hk, hqk, rfl, rfl, hw, hM⟩ := hrel
      subst hw
      subst hwl
      by_cases hlt : k < n
      · obtain ⟨b, off, x, rfl, hc0, hx⟩ := SW.out.at_ hlt
        rw [count_next hx] at hM
        have HM := Lib.hid hM
        clear hM hx
        cases x
        · go_wp2_with fail
          go_roundw
          case rel => exact ⟨k + 1, q, by omega, by omega, by go_num, rfl, by first | rfl | trivial, by have := HM.out; simpa using this⟩
          case measure => simp [intOf]; omega
        · go_wp2_with fail
          go_roundw
          case rel => exact ⟨k + 1, q + 1, by omega, by omega, by go_num, by go_num, by first | rfl | trivial, by have := HM.out; simp at this ⊢; omega⟩
          case measure => simp [intOf]; omega
      · have hkn : k = n := by omega
        subst hkn
        have hq : q = waitsN p := by
          have hlw : (waitsP p).length = k := SW.out.len
          rw [List.drop_eq_nil_of_le (by omega)] at hM; simpa using hM
        subst hq
        clear hM
        go_wp2_with fail
        refine (forgeBegun_any wl).mono ?_; rintro e w6 ⟨rfl, x6⟩
        have S6 := Lib.hid (S5.out.keep x6.keeps); have T6 := Lib.hid (T5.out.keep x6.keeps); have X6 := Lib.hid (X5.out.trans x6); clear x6
        go_wp2_with fail
        refine (sameRows_any A1 A3 _ _ c1 c3 R R w6 S6.out T6.out HC1.out HC1.out).mono ?_; rintro e w7 ⟨rfl, x7⟩
        rw [decide_eq_true (rfl : R = R)]
        go_wp2
        go_ret
        exact ⟨by simp, X6.out.trans x7⟩
  · obtain ⟨C, hC⟩ : ∃ C, C = checkP p := ⟨_, rfl⟩
    have HSZ : Hid (∀ Q, SlN Q PA n p → Calls Try.prog 8 #[.slice PA n pc] Q fun e w' => e = .returned (Pr3 (I 0) (I 0) (I C)) ∧ Ext Q w') := fun Q hQ => by
      have := size_any PA n pc p Q hQ HNM.out
      rw [if_neg hc, if_neg hc, ← hC] at this; exact this
    have HCK : Hid (∀ Q, SlN Q PA n p → Calls Try.prog 10 #[.slice PA n pc] Q fun e w' => e = .returned (I C) ∧ Q = w') := fun Q hQ => by
      have := rcheck_any' PA n pc p Q hQ HNM.out
      rw [← hC] at this; exact this
    rw [← hC] at hc
    have hnz : (C == 0) = false := by simpa using hc
    clear hC hc
    go_enter Try.func3, Try.ntmps3
    go_wp2_with fail
    refine (frun_any PA n pc p B m d l w HP.out HNM.out HL.out HMM.out).mono ?_; rintro e w1 ⟨v, vs, rfl, ho, x1⟩
    obtain ⟨A1, c1, rfl, n1, m1, hs1⟩ := ho.slice
    have X1 := Lib.hid x1; have S1 := Lib.hid hs1; have HC1 := Lib.hid (Nat.le_trans n1 m1); clear ho hs1 n1 m1 x1
    go_wp2_with fail
    refine (HSZ.out w1 (HP.out.keep X1.out.keeps)).mono ?_; rintro e w2 ⟨rfl, x2⟩
    have X2 := Lib.hid (X1.out.trans x2); have S2 := Lib.hid (S1.out.keep x2.keeps); clear x2 S1 X1
    go_wp2_with fail
    refine (playedOf_any PA n pc p B m d l w2 (HP.out.keep X2.out.keeps) HNM.out (HL.out.keep X2.out.keeps) HMM.out).mono ?_; rintro e w3 ⟨v, vs, rfl, ho, x3⟩
    obtain ⟨A3, c3, rfl, n3, m3, hs3⟩ := ho.slice
    have X3 := Lib.hid (X2.out.trans x3); have S3 := Lib.hid (S2.out.keep x3.keeps); have T3 := Lib.hid hs3; clear x3 S2 X2 ho hs3 n3 m3
    go_wp2_with fail
    refine (HCK.out w3 (HP.out.keep X3.out.keeps)).mono ?_; rintro e w4 ⟨rfl, rfl⟩
    generalize runRows p l = R at *
    generalize runErr p l = E at *
    go_wp2_with fail
    refine (forgeBegun_any w3).mono ?_; rintro e w6 ⟨rfl, x6⟩
    have S6 := Lib.hid (S3.out.keep x6.keeps); have T6 := Lib.hid (T3.out.keep x6.keeps); have X6 := Lib.hid (X3.out.trans x6); clear x6
    go_wp2_with fail
    refine (sameRows_any A1 A3 _ _ c1 c3 R R w6 S6.out T6.out HC1.out HC1.out).mono ?_; rintro e w7 ⟨rfl, x7⟩
    rw [decide_eq_true (rfl : R = R)]
    go_wp2
    go_ret
    exact ⟨by simp, X6.out.trans x7⟩
end Go.Proofs.Ytlafiddfplhafaa
