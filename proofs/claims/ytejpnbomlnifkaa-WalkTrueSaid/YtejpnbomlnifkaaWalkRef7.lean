/- The reference's WalkOf. -/
import Derived.Test.YtejpnbomlnifkaaWalkStep2
namespace Go.Proofs.Ytejpnbomlnifkaa
set_option linter.unusedVariables false
set_option linter.unusedSimpArgs false
open Go.RowKit

theorem power3 (w : World) : Calls Try.prog 36 #[.int .i64 3] w fun e w' => e = .returned (.int .i64 8) ∧ w = w' := power_any w 3 (by omega)
theorem bits3 (ins : Int) (h0 : 0 ≤ ins) (h8 : ins < 8) (w : World) : Calls Try.prog 37 #[I ins, .int .i64 3] w fun e w' => ∃ g c, e = .returned (.slice (some ⟨g, 0, none⟩) 3 c) ∧ w.heap.size ≤ g ∧ g < w'.heap.size ∧ (∀ j x, (bitsM ins 3)[j]? = some x → w'.cell? ⟨g, j, none⟩ = some (I x)) ∧ Ext w w' :=
  (rbits_any ins 3 w h0 (by omega) (by omega)).mono fun e w' ⟨v, he, hown, hx⟩ => by
    obtain ⟨g, c, rfl⟩ := own_form hown (by omega)
    obtain ⟨A, c', e1, -, -, hs⟩ := own_sl hown
    injection e1 with e1 _ _; subst e1
    refine ⟨g, c, he, (hown.lt g rfl).1, (hown.lt g rfl).2, fun j x hj => ?_, hx⟩
    obtain ⟨b, off, e2, hc⟩ := hs.2 j (I x) (by rw [List.getElem?_map, hj]; rfl)
    injection e2 with e2; injection e2 with e2 e3; subst e2; subst e3
    simpa using hc

set_option maxRecDepth 100000 in
set_option maxHeartbeats 8000000 in
theorem walkOf_any (PA : Option Addr) (n pc : Nat) (p : List PNode) (fr : Bool) (WA : Option Addr) (wn wc : Nat) (OA : Option Addr) (on oc : Nat) (r : RestM) (ins : Int) (w : World)
    (hp : SlN w PA n p) (hr : RestC w fr WA wn wc OA on oc r) (hn : n ≤ maxLen) :
    Calls Try.prog 19 #[.slice PA n pc, restV fr WA wn wc OA on oc, I ins] w fun e w' => RestB w w' e (stepM p r ins).1 (stepM p r ins).2.1 (stepM p r ins).2.2 := by
  generalize hM : stepM p r ins = M
  unfold stepM at hM
  have hpl := hp.1
  obtain ⟨W, hW⟩ : ∃ W, W = w.alloc (.cells #[Bv fr, .slice WA wn wc, .slice OA on oc] 39) := ⟨_, rfl⟩
  obtain ⟨W2, hW2⟩ : ∃ W2, W2 = W.alloc (.cells #[.bool false, .slice none 0 0, .slice none 0 0] 39) := ⟨_, rfl⟩
  obtain ⟨p0, p1, p2, hsz⟩ := restBox w fr WA wn wc OA on oc hW
  obtain ⟨y0, y1, y2, hsz2⟩ := restBox W false none 0 0 none 0 0 hW2
  have hWs : W.heap.size = w.heap.size + 1 := by rw [hW]; simp
  rw [hWs] at y0 y1 y2
  have f1 : ∀ j, W2.frozen? ⟨w.heap.size + 1, j, none⟩ = false := fun j => by rw [hW2, ← hWs]; exact World.frozen?_alloc_at _ _ _ _ rfl
  have hxW2 : Ext W W2 := by rw [hW2]; exact (Ext.refl _).alloc _
  have hx2 : Ext w W2 := Ext.trans (by rw [hW]; exact (Ext.refl _).alloc _) hxW2
  have x0 := hxW2.keeps _ _ p0; have x1 := hxW2.keeps _ _ p1; have x2 := hxW2.keeps _ _ p2
  have hb2 : w.heap.size + 1 < W2.heap.size := by omega
  have hW3 : W2 = (w.alloc (.cells #[Bv fr, .slice WA wn wc, .slice OA on oc] 39)).alloc (.cells #[.bool false, .slice none 0 0, .slice none 0 0] 39) := by rw [hW2, hW]
  have CK := Lib.hid (rCheckRest_any PA n pc p fr WA wn wc OA on oc r W2 (hp.keep hx2.keeps) (hr.keep hx2.keeps) hn)
  have HP0 := Lib.hid hp; have HR0 := Lib.hid hr
  have HW := Lib.hid hW3; have HP := Lib.hid (hp.keep hx2.keeps); have HR := Lib.hid (hr.keep hx2.keeps); have HX2 := Lib.hid hx2
  clear hp hr hW hW2 hxW2 p0 p1 p2 hsz hsz2 hWs hW3 hx2
  by_cases h0 : checkR p r ≠ 0
  · rw [if_pos h0] at hM
    have HM := Lib.hid hM; clear hM
    go_enter Try.func19, Try.ntmps19
    go_wp2_with fail
    rw [← HW.out]
    go_wp2_with fail
    refine CK.out.mono ?_; rintro e w1 ⟨rfl, hx1⟩
    have z0 := hx1.keeps _ _ y0; have z1 := hx1.keeps _ _ y1; have z2 := hx1.keeps _ _ y2
    have ff : ∀ j, w1.frozen? ⟨w.heap.size + 1, j, none⟩ = false := fun j => by rw [World.frozen?_of_block (a := ⟨w.heap.size + 1, j, none⟩) (hx1.block _ hb2)]; exact f1 j
    go_wp2
    refine bodyPost_ret (v := Pr3 (restV false none 0 0 none 0 0) (Bv false) (I (checkR p r))) (by simp [results, Try.results19, go_sem, z0, z1, z2]) rfl ⟨false, none, 0, 0, none, 0, 0, by rw [← HM.out], by rw [← HM.out]; exact RestC.zero _, NewA.no _, NewA.no _, ?_⟩
    exact (((HX2.out.trans hx1).setCell (by show w.heap.size ≤ w.heap.size + 1; omega) _).setCell (by show w.heap.size ≤ w.heap.size + 1; omega) _).setCell (by show w.heap.size ≤ w.heap.size + 1; omega) _
  rw [if_neg h0] at hM
  have h00 : checkR p r = 0 := by simpa using h0
  have H00 := Lib.hid h00
  obtain ⟨k1, k2, k3, -⟩ := checkR_ok h00
  have k4 := checkR_waits h00
  clear h0 h00
  by_cases h1 : ins < 0 ∨ 8 ≤ ins
  · rw [if_pos h1] at hM
    have HM := Lib.hid hM
    have hq : (decide ((0 : Int) ≤ ins) && decide (ins ≤ 7)) = false := by simp; omega
    have HQ := Lib.hid hq
    clear hM h1 k1 k2 k3 k4 hq
    go_enter Try.func19, Try.ntmps19
    go_wp2_with fail
    rw [← HW.out]
    go_wp2_with fail
    refine CK.out.mono ?_; rintro e w1 ⟨rfl, hx1⟩; rw [H00.out]
    have z0 := hx1.keeps _ _ y0; have z1 := hx1.keeps _ _ y1; have z2 := hx1.keeps _ _ y2
    have ff : ∀ j, w1.frozen? ⟨w.heap.size + 1, j, none⟩ = false := fun j => by rw [World.frozen?_of_block (a := ⟨w.heap.size + 1, j, none⟩) (hx1.block _ hb2)]; exact f1 j
    go_wp2_with fail
    refine (power3 _).mono ?_; rintro e w' ⟨rfl, rfl⟩
    go_wp2_with fail
    refine (within_any' ins 0 7 _).mono ?_; rintro e w' ⟨rfl, rfl⟩; rw [HQ.out]
    go_wp2
    refine bodyPost_ret (v := Pr3 (restV false none 0 0 none 0 0) (Bv false) (I 3)) (by simp [results, Try.results19, go_sem, z0, z1, z2]) rfl ⟨false, none, 0, 0, none, 0, 0, by rw [← HM.out], by rw [← HM.out]; exact RestC.zero _, NewA.no _, NewA.no _, ?_⟩
    exact (((HX2.out.trans hx1).setCell (by show w.heap.size ≤ w.heap.size + 1; omega) _).setCell (by show w.heap.size ≤ w.heap.size + 1; omega) _).setCell (by show w.heap.size ≤ w.heap.size + 1; omega) _
  · rw [if_neg h1] at hM
    have j0 : 0 ≤ ins := by omega
    have j8 : ins < 8 := by omega
    have hq : (decide ((0 : Int) ≤ ins) && decide (ins ≤ 7)) = true := by simp; omega
    have HQ := Lib.hid hq
    obtain ⟨t1, t2, t3, t4⟩ := tree_of k1
    have hn14 : n ≤ 14 := by rw [← hpl, t2, flat_size]; exact t3
    have hwn : wn = n := by have := HR.out.waits.len; omega
    have hon : on = 3 := by have := HR.out.outs.len; omega
    subst hwn; subst hon
    have htz : (treeOf p).size = wn := by rw [← flat_size, ← t2]; exact hpl
    have hK : p.any badKind = false := (checkP_ok k1).2.1
    have mk : ∀ (wX : World) (g1 g2 g3 ic : Nat), Ext W2 wX → w.heap.size + 2 ≤ g1 → w.heap.size + 2 ≤ g2 → g1 ≠ g2 → g3 ≠ g1 → g3 ≠ g2 → g1 < wX.heap.size → g2 < wX.heap.size → g3 < wX.heap.size →
        wX.ownsRow w.heap.size 4 1 (.slice (some ⟨g1, 0, none⟩) wn wn) wn ((List.replicate wn false).map Bv) → wX.ownsRow w.heap.size 4 1 (.slice (some ⟨g2, 0, none⟩) 3 3) 3 (([false, false, false] : List Bool).map Bv) → (∀ j x, (bitsM ins 3)[j]? = some x → wX.cell? ⟨g3, j, none⟩ = some (I x)) →
        ∀ Q, Q = wX.alloc (.cells #[.slice PA wn pc, Bv fr, .slice WA wn wc, .slice OA 3 oc, .slice (some ⟨g3, 0, none⟩) 3 ic, .bool false, .slice (some ⟨g1, 0, none⟩) wn wn, .slice (some ⟨g2, 0, none⟩) 3 3] 72) →
          RSt w wX.heap.size g1 g2 g3 PA wn pc fr WA wc OA oc ic ins Q ⟨List.replicate wn false, [false, false, false]⟩ ∧ Ext W2 Q := fun wX g1 g2 g3 ic hx a1 a2 a3 a4 a5 b1 b2 b3 hW hO hB Q hQ => by
      subst hQ
      have ha : Ext wX (wX.alloc (.cells #[.slice PA wn pc, Bv fr, .slice WA wn wc, .slice OA 3 oc, .slice (some ⟨g3, 0, none⟩) 3 ic, .bool false, .slice (some ⟨g1, 0, none⟩) wn wn, .slice (some ⟨g2, 0, none⟩) 3 3] 72)) := (Ext.refl wX).alloc _
      have hsX := hx.size
      refine ⟨⟨HX2.out.trans (hx.trans ha), by omega, by omega, by omega, by omega, by omega, a3, a4, a5, ?_, ?_, ?_, ?_, ?_, ?_, ?_, ?_, fun j x hj => ha.keeps _ _ (hB j x hj), own_ext hW ha, own_ext hO ha⟩, hx.trans ha⟩
      all_goals (rw [World.cell?_alloc_new]; rfl)
    have tl : ∀ (b g1 g2 g3 ic : Nat) (w2 : World) (st : StM), RSt w b g1 g2 g3 PA wn pc fr WA wc OA oc ic ins w2 st → w.heap.size + 2 ≤ g1 → w.heap.size + 2 ≤ g2 → (∃ Q, Ext W2 Q ∧ Off g1 g2 Q w2) →
        (w2.cell? ⟨w.heap.size + 1, 0, none⟩ = some (.bool false) ∧ w2.cell? ⟨w.heap.size + 1, 1, none⟩ = some (.slice none 0 0) ∧ w2.cell? ⟨w.heap.size + 1, 2, none⟩ = some (.slice none 0 0)) ∧ (∀ j, w2.frozen? ⟨w.heap.size + 1, j, none⟩ = false) ∧
        ∀ v0 v1 v2, RestC (((w2.setCell ⟨w.heap.size + 1, 0, none⟩ v0).setCell ⟨w.heap.size + 1, 1, none⟩ v1).setCell ⟨w.heap.size + 1, 2, none⟩ v2) false (some ⟨g1, 0, none⟩) wn wn (some ⟨g2, 0, none⟩) 3 3 ⟨false, st.W, st.O⟩ ∧
          Ext w (((w2.setCell ⟨w.heap.size + 1, 0, none⟩ v0).setCell ⟨w.heap.size + 1, 1, none⟩ v1).setCell ⟨w.heap.size + 1, 2, none⟩ v2) := fun b g1 g2 g3 ic w2 st hw a1 a2 ⟨Q, hQ, ho⟩ => by
      have n1 : w.heap.size + 1 ≠ g1 := by omega
      have n2 : w.heap.size + 1 ≠ g2 := by omega
      have hR : RestC w2 false (some ⟨g1, 0, none⟩) wn wn (some ⟨g2, 0, none⟩) 3 3 ⟨false, st.W, st.O⟩ := by
        obtain ⟨A, c, e, -, -, s1⟩ := own_sl hw.W
        injection e with e _ _; subst e
        obtain ⟨A, c, e, -, -, s2⟩ := own_sl hw.O
        injection e with e _ _; subst e
        exact ⟨rfl, s1, s2, ⟨Nat.le_refl _, by unfold maxLen; omega⟩, ⟨Nat.le_refl _, by unfold maxLen; omega⟩⟩
      refine ⟨⟨ho.cell (hQ.keeps _ _ y0) n1 n2, ho.cell (hQ.keeps _ _ y1) n1 n2, ho.cell (hQ.keeps _ _ y2) n1 n2⟩, fun j => ?_, fun v0 v1 v2 => ⟨((hR.far n1 n2 _).far n1 n2 _).far n1 n2 _, ?_⟩⟩
      · have e1 : w2.heap[w.heap.size + 1]? = Q.heap[w.heap.size + 1]? := ho.block _ (Nat.lt_of_lt_of_le hb2 hQ.size) n1 n2
        have e2 : Q.heap[w.heap.size + 1]? = W2.heap[w.heap.size + 1]? := hQ.block _ hb2
        rw [World.frozen?_of_block (a := ⟨w.heap.size + 1, j, none⟩) (e1.trans e2)]; exact f1 j
      · exact ((hw.ext.setCell (by show w.heap.size ≤ w.heap.size + 1; omega) _).setCell (by show w.heap.size ≤ w.heap.size + 1; omega) _).setCell (by show w.heap.size ≤ w.heap.size + 1; omega) _
    have MK := Lib.hid mk; have TL := Lib.hid tl; clear mk tl
    have BT := bits3 ins j0 j8
    simp only [turnR, turnM, HR.out.fresh, htz] at hM
    have T1 := Lib.hid t1; have T2 := Lib.hid t2; have T4 := Lib.hid t4; have K4 := Lib.hid k4; have HTZ := Lib.hid htz; have HKK := Lib.hid hK
    have HM := Lib.hid hM
    clear hM h1 hq t1 t2 t3 t4 k1 k2 k3 k4 htz hK y0 y1 y2
    go_enter Try.func19, Try.ntmps19
    go_wp2_with fail
    rw [← HW.out]
    go_wp2_with fail
    refine CK.out.mono ?_; rintro e w1 ⟨rfl, hx1⟩; rw [H00.out]
    have v0 := hx1.keeps _ _ x0; have v1 := hx1.keeps _ _ x1; have v2 := hx1.keeps _ _ x2
    have hs1 : w.heap.size + 1 < w1.heap.size := Nat.lt_of_lt_of_le hb2 hx1.size
    go_wp2_with fail
    refine (power3 _).mono ?_; rintro e w' ⟨rfl, rfl⟩
    go_wp2_with fail
    refine (within_any' ins 0 7 _).mono ?_; rintro e w' ⟨rfl, rfl⟩; rw [HQ.out]
    go_wp2_with fail
    go_region_held3 (fun w' => w'.cell? ⟨w.heap.size, 0, none⟩ = some (Bv fr) ∧ w'.cell? ⟨w.heap.size, 1, none⟩ = some (.slice WA wn wc) ∧ w'.cell? ⟨w.heap.size, 2, none⟩ = some (.slice OA 3 oc))
      (first | exact ⟨xb.keeps _ _ v0, xb.keeps _ _ v1, xb.keeps _ _ v2⟩ | exact ⟨xf.keeps _ _ v0, xf.keeps _ _ v1, xf.keeps _ _ v2⟩ | exact ⟨(xb.trans xf).keeps _ _ v0, (xb.trans xf).keeps _ _ v1, (xb.trans xf).keeps _ _ v2⟩ | exact ⟨(xf.trans xb).keeps _ _ v0, (xf.trans xb).keeps _ _ v1, (xf.trans xb).keeps _ _ v2⟩ | go_keep)
      (first | (go_at_call 37; (with_reducible refine (BT _).mono ?_); rintro e wz ⟨g3, ic, rfl, hg3, hg3', hB, xb⟩) | (go_at_call 13; (with_reducible refine (rfresh_any PA wn pc _ hn14).mono ?_); rintro e wz ⟨g1, g2, rfl, hg1, hg2, hne, hW, hO, xf⟩))
    all_goals
      have hx : Ext w1 wz := by first | exact (((Ext.refl w1).drew).trans xb).trans xf | exact (((Ext.refl w1).drew).trans xf).trans xb
      have hBz : ∀ j x, (bitsM ins 3)[j]? = some x → wz.cell? ⟨g3, j, none⟩ = some (I x) := by first | exact hB | exact fun j x h => xf.keeps _ _ (hB j x h)
      have s1 := xb.size; have s2 := xf.size
      have s3 : w1.drew.heap.size = w1.heap.size := rfl
      have a1 := (hW.lt g1 rfl).2; have a2 := (hO.lt g2 rfl).2
      have hWz : wz.ownsRow w.heap.size 4 1 (.slice (some ⟨g1, 0, none⟩) wn wn) wn ((List.replicate wn false).map Bv) := by first | exact own_base hW (by omega) | exact own_base (own_ext hW xb) (by omega)
      have hOz : wz.ownsRow w.heap.size 4 1 (.slice (some ⟨g2, 0, none⟩) 3 3) 3 (([false, false, false] : List Bool).map Bv) := by first | exact own_base hO (by omega) | exact own_base (own_ext hO xb) (by omega)
      have mk := MK.out wz g1 g2 g3 ic (hx1.trans hx) (by omega) (by omega) hne (by omega) (by omega) (by omega) (by omega) (by omega) hWz hOz hBz
      have z0 := hx.keeps _ _ v0
      have b1 : w.heap.size + 2 ≤ g1 := by omega
      have b2 : w.heap.size + 2 ≤ g2 := by omega
      have hwz : w.heap.size < wz.heap.size := by omega
      have MKz := Lib.hid mk; have B1 := Lib.hid b1; have B2 := Lib.hid b2
      clear mk b1 b2 s1 s2 s3 a1 a2 hWz hOz hBz hx hB xb xf hW hO hg1 hg2 hg3 hg3' v0 v1 v2 hne
    all_goals
      cases fr
      · cases hsome : someT r.waits (treeOf p) 0
        · have hm := HM.out
          simp only [hsome, Bool.false_eq_true, if_false] at hm
          have HM1 := Lib.hid hm; have HSO := Lib.hid hsome; clear hm hsome HM
          go_wp2_with fail
          obtain ⟨hw, hxq⟩ := MKz.out _ rfl
          refine (rsome_any w wz.heap.size g1 g2 g3 PA wn pc false WA wc OA oc ic ins p r.waits _ _ hw HP0.out HR0.out.waits hn14 HKK.out 0 (treeOf p) (by have := TreeAt.root (treeOf p); rwa [← T2.out] at this) T1.out).mono ?_; rintro e w2 ⟨rfl, rfl⟩; rw [HSO.out]
          generalize hW2 : wz.alloc (.cells #[.slice PA wn pc, Bv false, .slice WA wn wc, .slice OA 3 oc, .slice (some ⟨g3, 0, none⟩) 3 ic, .bool false, .slice (some ⟨g1, 0, none⟩) wn wn, .slice (some ⟨g2, 0, none⟩) 3 3] 72) = w2 at *
          have HXQ := Lib.hid hxq; have hs2 := hw; have o2 := Off.refl g1 g2 w2; clear hxq hw hW2
          have HS2 := Lib.hid hs2; have HO2 : Hid (∃ Q, Ext W2 Q ∧ Off g1 g2 Q w2) := ⟨_, HXQ.out, o2⟩; clear hs2 o2
          obtain ⟨⟨y0, y1, y2⟩, yf, yr⟩ := TL.out _ _ _ _ _ w2 _ HS2.out B1.out B2.out HO2.out
          have c5 := HS2.out.c5; have c6 := HS2.out.c6; have c7 := HS2.out.c7
          have YR := Lib.hid yr; clear yr
          go_wp2
          refine bodyPost_ret (v := Pr3 (restV false (some ⟨g1, 0, none⟩) wn wn (some ⟨g2, 0, none⟩) 3 3) (Bv false) (I 0)) (by simp [results, Try.results19, go_sem, y0, y1, y2]) rfl ⟨false, some ⟨g1, 0, none⟩, wn, wn, some ⟨g2, 0, none⟩, 3, 3, by rw [← HM1.out], by rw [← HM1.out]; exact (YR.out _ _ _).1, NewA.at (by have := B1.out; omega), NewA.at (by have := B2.out; omega), (YR.out _ _ _).2⟩
        · have hm := HM.out
          simp only [hsome, if_true, Bool.false_eq_true, if_false] at hm
          have HM1 := Lib.hid hm; have HSO := Lib.hid hsome; clear hm hsome HM
          go_wp2_with fail
          obtain ⟨hw, hxq⟩ := MKz.out _ rfl
          refine (rsome_any w wz.heap.size g1 g2 g3 PA wn pc false WA wc OA oc ic ins p r.waits _ _ hw HP0.out HR0.out.waits hn14 HKK.out 0 (treeOf p) (by have := TreeAt.root (treeOf p); rwa [← T2.out] at this) T1.out).mono ?_; rintro e w2 ⟨rfl, rfl⟩; rw [HSO.out]
          have HS0 := Lib.hid hw; have HXQ := Lib.hid hxq; clear hw hxq
          go_wp2_with fail
          refine (ron_any w wz.heap.size g1 g2 g3 PA wn pc false WA wc OA oc ic ins p r.outs r.waits HP0.out HR0.out.outs HR0.out.waits hn14 HKK.out K4.out (treeOf p) 0 (by have := TreeAt.root (treeOf p); rwa [← T2.out] at this) T1.out T4.out _ _ HS0.out HSO.out (fun j _ _ => rep_false _ _)).mono ?_; rintro e w2 ⟨rfl, hs2, o2⟩
          have HS2 := Lib.hid hs2; have HO2 : Hid (∃ Q, Ext W2 Q ∧ Off g1 g2 Q w2) := ⟨_, HXQ.out, o2⟩; clear hs2 o2
          obtain ⟨⟨y0, y1, y2⟩, yf, yr⟩ := TL.out _ _ _ _ _ w2 _ HS2.out B1.out B2.out HO2.out
          have c5 := HS2.out.c5; have c6 := HS2.out.c6; have c7 := HS2.out.c7
          have YR := Lib.hid yr; clear yr
          go_wp2
          refine bodyPost_ret (v := Pr3 (restV false (some ⟨g1, 0, none⟩) wn wn (some ⟨g2, 0, none⟩) 3 3) (Bv (onT (thereM ins) (wasM r.outs) r.waits (treeOf p) 0 ⟨List.replicate wn false, [false, false, false]⟩).1) (I 0)) (by simp [results, Try.results19, go_sem, y0, y1, y2]) rfl ⟨false, some ⟨g1, 0, none⟩, wn, wn, some ⟨g2, 0, none⟩, 3, 3, by rw [← HM1.out], by rw [← HM1.out]; exact (YR.out _ _ _).1, NewA.at (by have := B1.out; omega), NewA.at (by have := B2.out; omega), (YR.out _ _ _).2⟩
      · have hm := HM.out
        simp only [if_true] at hm
        have HM1 := Lib.hid hm; clear hm HM
        go_wp2_with fail
        obtain ⟨hw, hxq⟩ := MKz.out _ rfl
        refine (rbegin_any w wz.heap.size g1 g2 g3 PA wn pc true WA wc OA oc ic ins p r.outs HP0.out HR0.out.outs hn14 HKK.out (treeOf p) 0 (by have := TreeAt.root (treeOf p); rwa [← T2.out] at this) T1.out T4.out _ _ hw).mono ?_; rintro e w2 ⟨rfl, hs2, o2⟩
        have HXQ := Lib.hid hxq; clear hxq hw
        have HS2 := Lib.hid hs2; have HO2 : Hid (∃ Q, Ext W2 Q ∧ Off g1 g2 Q w2) := ⟨_, HXQ.out, o2⟩; clear hs2 o2
        obtain ⟨⟨y0, y1, y2⟩, yf, yr⟩ := TL.out _ _ _ _ _ w2 _ HS2.out B1.out B2.out HO2.out
        have c5 := HS2.out.c5; have c6 := HS2.out.c6; have c7 := HS2.out.c7
        have YR := Lib.hid yr; clear yr
        go_wp2
        refine bodyPost_ret (v := Pr3 (restV false (some ⟨g1, 0, none⟩) wn wn (some ⟨g2, 0, none⟩) 3 3) (Bv (beginT (thereM ins) (wasM r.outs) (treeOf p) 0 ⟨List.replicate wn false, [false, false, false]⟩).1) (I 0)) (by simp [results, Try.results19, go_sem, y0, y1, y2]) rfl ⟨false, some ⟨g1, 0, none⟩, wn, wn, some ⟨g2, 0, none⟩, 3, 3, by rw [← HM1.out], by rw [← HM1.out]; exact (YR.out _ _ _).1, NewA.at (by have := B1.out; omega), NewA.at (by have := B2.out; omega), (YR.out _ _ _).2⟩
end Go.Proofs.Ytejpnbomlnifkaa
