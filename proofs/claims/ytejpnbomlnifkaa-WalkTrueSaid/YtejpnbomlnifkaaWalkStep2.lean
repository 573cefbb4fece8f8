/- Step of package walk. -/
import Derived.Test.YtejpnbomlnifkaaWalkStep
namespace Go.Proofs.Ytejpnbomlnifkaa
set_option linter.unusedVariables false
set_option linter.unusedSimpArgs false
open Go.RowKit

set_option maxRecDepth 100000 in
set_option maxHeartbeats 8000000 in
theorem walkStep_any (PA : Option Addr) (n pc : Nat) (p : List PNode) (fr : Bool) (WA : Option Addr) (wn wc : Nat) (OA : Option Addr) (on oc : Nat) (r : RestM) (ins : Int) (w : World)
    (hp : SlN w PA n p) (hr : RestC w fr WA wn wc OA on oc r) (hn : n ≤ maxLen) :
    Calls Try.prog 18 #[.slice PA n pc, restV fr WA wn wc OA on oc, I ins] w fun e w' => RestB w w' e (stepM p r ins).1 (stepM p r ins).2.1 (stepM p r ins).2.2 := by
  generalize hM : stepM p r ins = M
  unfold stepM at hM
  have hpl := hp.1
  obtain ⟨W, hW⟩ : ∃ W, W = w.alloc (.cells #[Bv fr, .slice WA wn wc, .slice OA on oc] 39) := ⟨_, rfl⟩
  obtain ⟨W2, hW2⟩ : ∃ W2, W2 = W.alloc (.cells #[.bool false, .slice none 0 0, .slice none 0 0] 39) := ⟨_, rfl⟩
  obtain ⟨p0, p1, p2, hsz⟩ := restBox w fr WA wn wc OA on oc hW
  obtain ⟨y0, y1, y2, hsz2⟩ := restBox W false none 0 0 none 0 0 hW2
  have hWs : W.heap.size = w.heap.size + 1 := by rw [hW]; simp
  rw [hWs] at y0 y1 y2
  have f1 : ∀ j, W2.frozen? ⟨w.heap.size + 1, j, none⟩ = false := fun j => by rw [hW2, ← hWs]; exact World.frozen?_alloc_at _ _ _ _ rfl
  have hxW2 : Ext W W2 := by rw [hW2]; exact (Ext.refl _).alloc _
  have hx2 : Ext w W2 := Ext.trans (by rw [hW]; exact (Ext.refl _).alloc _) hxW2
  have x0 := hxW2.keeps _ _ p0; have x1 := hxW2.keeps _ _ p1; have x2 := hxW2.keeps _ _ p2
  have hb2 : w.heap.size + 1 < W2.heap.size := by omega
  have hW3 : W2 = (w.alloc (.cells #[Bv fr, .slice WA wn wc, .slice OA on oc] 39)).alloc (.cells #[.bool false, .slice none 0 0, .slice none 0 0] 39) := by rw [hW2, hW]
  have CK := Lib.hid (walkCheck_any PA n pc p fr WA wn wc OA on oc r W2 (hp.keep hx2.keeps) (hr.keep hx2.keeps) hn)
  have HW := Lib.hid hW3; have HP := Lib.hid (hp.keep hx2.keeps); have HR := Lib.hid (hr.keep hx2.keeps); have HX2 := Lib.hid hx2
  clear hp hr hW hW2 hxW2 p0 p1 p2 hsz hsz2 hWs hW3 hx2
  by_cases h0 : checkR p r ≠ 0
  · rw [if_pos h0] at hM
    have HM := Lib.hid hM; clear hM
    go_enter Try.func18, Try.ntmps18
    go_wp2_with fail
    rw [← HW.out]
    go_wp2_with fail
    refine CK.out.mono ?_; rintro e w1 ⟨rfl, hx1⟩
    have z0 := hx1.keeps _ _ y0; have z1 := hx1.keeps _ _ y1; have z2 := hx1.keeps _ _ y2
    have ff : ∀ j, w1.frozen? ⟨w.heap.size + 1, j, none⟩ = false := fun j => by rw [World.frozen?_of_block (a := ⟨w.heap.size + 1, j, none⟩) (hx1.block _ hb2)]; exact f1 j
    go_wp2
    refine bodyPost_ret (v := Pr3 (restV false none 0 0 none 0 0) (Bv false) (I (checkR p r))) (by simp [results, Try.results18, go_sem, z0, z1, z2]) rfl ⟨false, none, 0, 0, none, 0, 0, by rw [← HM.out], by rw [← HM.out]; exact RestC.zero _, NewA.no _, NewA.no _, ?_⟩
    exact (((HX2.out.trans hx1).setCell (by show w.heap.size ≤ w.heap.size + 1; omega) _).setCell (by show w.heap.size ≤ w.heap.size + 1; omega) _).setCell (by show w.heap.size ≤ w.heap.size + 1; omega) _
  rw [if_neg h0] at hM
  have h00 : checkR p r = 0 := by simpa using h0
  have H00 := Lib.hid h00
  obtain ⟨k1, k2, k3, -⟩ := checkR_ok h00
  have k4 := checkR_waits h00
  clear h0 h00
  by_cases h1 : ins < 0 ∨ 8 ≤ ins
  · rw [if_pos h1] at hM
    have HM := Lib.hid hM
    have hd : ins < 0 ∨ (¬ ins < 0 ∧ 8 ≤ ins) := by omega
    clear hM h1 k1 k2 k3 k4
    rcases hd with hd | ⟨hd, hd2⟩
    all_goals
      go_enter Try.func18, Try.ntmps18
      go_wp2_with fail
      rw [← HW.out]
      go_wp2_with fail
      refine CK.out.mono ?_; rintro e w1 ⟨rfl, hx1⟩; rw [H00.out]
      have z0 := hx1.keeps _ _ y0; have z1 := hx1.keeps _ _ y1; have z2 := hx1.keeps _ _ y2
      have ff : ∀ j, w1.frozen? ⟨w.heap.size + 1, j, none⟩ = false := fun j => by rw [World.frozen?_of_block (a := ⟨w.heap.size + 1, j, none⟩) (hx1.block _ hb2)]; exact f1 j
      go_wp2
      refine bodyPost_ret (v := Pr3 (restV false none 0 0 none 0 0) (Bv false) (I 3)) (by simp [results, Try.results18, go_sem, z0, z1, z2]) rfl ⟨false, none, 0, 0, none, 0, 0, by rw [← HM.out], by rw [← HM.out]; exact RestC.zero _, NewA.no _, NewA.no _, ?_⟩
      exact (((HX2.out.trans hx1).setCell (by show w.heap.size ≤ w.heap.size + 1; omega) _).setCell (by show w.heap.size ≤ w.heap.size + 1; omega) _).setCell (by show w.heap.size ≤ w.heap.size + 1; omega) _
  · rw [if_neg h1] at hM
    have i0 : ¬ ins < 0 := by omega
    have i8 : ¬ 8 ≤ ins := by omega
    have j0 : 0 ≤ ins := by omega
    have j8 : ins < 8 := by omega
    obtain ⟨t1, t2, t3, t4⟩ := tree_of k1
    have TN := fun w1 (hx1 : Ext W2 w1) => turn_any PA n pc (treeOf p) fr WA wn wc OA on oc r ins w1 (by rw [← t2]; exact HP.out.keep hx1.keeps) t1 t4 t3 (HR.out.keep hx1.keeps) (by rw [k2, ← flat_size, ← t2]) k3 (by rw [← t2]; exact k4) j0 j8
    have HTN := Lib.hid TN
    have HM := Lib.hid hM
    clear TN hM h1 k1 k2 k3 k4 t1 t2 t3 t4
    go_enter Try.func18, Try.ntmps18
    go_wp2_with fail
    rw [← HW.out]
    go_wp2_with fail
    refine CK.out.mono ?_; rintro e w1 ⟨rfl, hx1⟩; rw [H00.out]
    have v0 := hx1.keeps _ _ x0; have v1 := hx1.keeps _ _ x1; have v2 := hx1.keeps _ _ x2
    have hs1 : w.heap.size + 1 < w1.heap.size := Nat.lt_of_lt_of_le hb2 hx1.size
    go_wp2_with fail
    refine (HTN.out w1 hx1).mono ?_; rintro e w2 ⟨g1, g2, rfl, hg1, hg2, hR, hx2⟩
    have hx := hx1.trans hx2
    have z0 := hx.keeps _ _ y0; have z1 := hx.keeps _ _ y1; have z2 := hx.keeps _ _ y2
    have ff : ∀ j, w2.frozen? ⟨w.heap.size + 1, j, none⟩ = false := fun j => by rw [World.frozen?_of_block (a := ⟨w.heap.size + 1, j, none⟩) (hx.block _ hb2)]; exact f1 j
    have n1 : w.heap.size + 1 ≠ g1 := by omega
    have n2 : w.heap.size + 1 ≠ g2 := by omega
    have hs2 : w.heap.size + 1 < w2.heap.size := Nat.lt_of_lt_of_le hs1 hx2.size
    have n3 : w.heap.size + 1 ≠ w2.heap.size := by omega
    have ng1 : w.heap.size ≤ g1 := by omega
    have ng2 : w.heap.size ≤ g2 := by omega
    have NG1 := Lib.hid ng1; have NG2 := Lib.hid ng2; clear ng1 ng2
    have HRR := Lib.hid hR; have HX := Lib.hid (HX2.out.trans hx)
    clear hR hx hx1 hx2 v0 v1 v2 x0 x1 x2 y0 y1 y2 hg1 hg2
    go_wp2
    have al : ∀ (Q : World) (o : Obj) (j : Nat), w.heap.size + 1 < Q.heap.size → (Q.alloc o).cell? ⟨w.heap.size + 1, j, none⟩ = Q.cell? ⟨w.heap.size + 1, j, none⟩ := fun Q o j h => World.cell?_alloc_lt Q o _ h
    refine bodyPost_ret (v := Pr3 (restV false (some ⟨g1, 0, none⟩) n n (some ⟨g2, 0, none⟩) 3 3) (Bv (turnM (treeOf p) r ins).1) (I 0)) (by simp [results, Try.results18, go_sem, al, hs2, z0, z1, z2]) rfl ⟨false, some ⟨g1, 0, none⟩, n, n, some ⟨g2, 0, none⟩, 3, 3, by rw [← HM.out], by rw [← HM.out]; exact (((HRR.out.far n1 n2 _).far n1 n2 _).far n1 n2 _).keep (Keeps.alloc _ _), NewA.at NG1.out, NewA.at NG2.out, ?_⟩
    exact (((HX.out.setCell (by show w.heap.size ≤ w.heap.size + 1; omega) _).setCell (by show w.heap.size ≤ w.heap.size + 1; omega) _).setCell (by show w.heap.size ≤ w.heap.size + 1; omega) _).alloc _
end Go.Proofs.Ytejpnbomlnifkaa
