/- What must be in any case of eval. -/
import Derived.Test.YtlafiddfplhafaaFa22
import Derived.Test.YtlafiddfplhafaaFa18
import Derived.Test.YtlafiddfplhafaaFa19
import Derived.Test.YtlafiddfplhafaaFa13
import Derived.Test.YtlafiddfplhafaaFa17
import Derived.Test.YtlafiddfplhafaaFa09
namespace Go.Proofs.Ytlafiddfplhafaa
set_option linter.unusedVariables false
set_option linter.unusedSimpArgs false
set_option linter.unusedVariables false
set_option linter.unusedSimpArgs false
open Go.RowKit
section
variable {i : Int} {GA : Option Addr} {gn gc : Nat} {RA : Option Addr} {rn rc : Nat} {OA : Option Addr} {on oc : Nat} {N : NetM} {w : World}
end
end Go.Proofs.Ytlafiddfplhafaa
/- What must be in any case of tick. -/
namespace Go.Proofs.Ytlafiddfplhafaa
set_option linter.unusedVariables false
set_option linter.unusedSimpArgs false
open Go.RowKit
section
variable {i : Int} {GA : Option Addr} {gn gc : Nat} {RA : Option Addr} {rn rc : Nat} {OA : Option Addr} {on oc : Nat} {N : NetM} {w : World}
theorem rows_lit (A B : Option Addr) (n c d : Nat) (xs : List (List Int)) (Q : World) (h : SlRows Q A n xs) (h' : SlRows Q B n xs) (hn : n ≤ 1000) : Calls Try.prog 13 #[.slice A n c, .slice B n d] Q fun e w' => e = .returned (.bool true) ∧ Ext Q w' :=
  (sameRows_any A B n n c d xs xs Q h h' (ml_small hn) (ml_small hn)).mono fun e w' ⟨he, hx⟩ => ⟨by rw [he]; simp, hx⟩
end
end Go.Proofs.Ytlafiddfplhafaa
/- What must be in any case of forge. -/
namespace Go.Proofs.Ytlafiddfplhafaa
set_option linter.unusedVariables false
set_option linter.unusedSimpArgs false
open Go.RowKit
theorem fplay_ok (w : World) : Calls Try.prog 35 #[] w fun e w' => ∃ b, e = .returned (.slice (some ⟨b, 0, none⟩) 13 13) ∧ SlN w' (some ⟨b, 0, none⟩) 13 playM ∧ Ext w w' :=
  (play_any w).mono fun e w' ⟨h1, h2⟩ => ⟨_, h1, by rw [← h2]; exact Sl2.newAt PK PS w _ playM _ _ rfl rfl, by rw [← h2]; exact (Ext.refl w).alloc _⟩
theorem netbox_mk (w : World) (i : Int) (GA : Option Addr) (gn gc : Nat) (RA : Option Addr) (rn rc : Nat) (OA : Option Addr) (on oc : Nat) :
    ∃ q, q = w.alloc (.cells #[I i, .slice GA gn gc, .slice RA rn rc, .slice OA on oc] 39) ∧ Ext w q ∧ NetBox q w.heap.size i GA gn gc RA rn rc OA on oc :=
  ⟨_, rfl, (Ext.refl _).alloc _, NetBox.new w i GA gn gc RA rn rc OA on oc _⟩
theorem fplay_check : checkP playM = 0 := by decide +kernel
theorem fplay_err : runErr playM [0, 1, 0, 7] = 0 := by decide +kernel
theorem fplay_rows : runRows playM [0, 1, 0, 7] = [[0, 0, 0], [1, 1, 0], [0, 0, 1], [0, 0, 0]] := by decide +kernel
theorem fplay_err2 : runErr playM [8] = 3 := by decide +kernel
theorem fplay_rows2 : runRows playM [8] = [] := by decide +kernel
theorem fplay_waits : waitsN playM = 4 := by decide +kernel
/-- What a right program's net answers. -/
structure NetFacts (p : List PNode) : Prop where
  check : checkN (netR p) = 0
  ok : NetOK (netR p)
  ins : (netR p).ins = 3
  outs : (netR p).outs.length = 3
  runE : ∀ l, runE (netR p) l = timesM l 3
  runV : ∀ l, timesM l 3 = 0 → (runV (netR p) l).1 = runRows p l
  order : ∃ l, orderM (netR p).gates = some l
  swept : ∃ l, orderM (dropN (foldN (netR p))).gates = some l
  reach : ∀ w, reachM (netR p) ≠ .bad w
theorem net_facts {p : List PNode} (h : checkP p = 0) : NetFacts p := by
  obtain ⟨t1, t2, t3, t4⟩ := tree_of h
  have e : netR p = netF (treeOf p) := by rw [netR, if_pos h]
  have ok := net_ok t1 t4 t3
  refine ⟨by rw [e]; exact ok.check, by rw [e]; exact ok, by rw [e]; rfl, by rw [e]; rfl, fun l => by rw [e]; exact fnet_runE t1 t4 t3 l, fun l hl => ?_, by rw [e]; exact net_order t1 t4 t3, by rw [e]; exact fnet_swept t1 t4 t3, by rw [e]; exact fnet_reach t1 t4 t3⟩
  rw [e, fnet_runV t1 t4 t3 l hl, runRows, if_pos (by unfold runErr; rw [if_pos h, hl])]
theorem SlRows.new4 (w : World) (b : Nat) (hb : b = w.heap.size) (A1 A2 A3 A4 : Option Addr) (r1 r2 r3 r4 : List Int) (t : TypeId) (h1 : Sl w A1 3 (r1.map I)) (h2 : Sl w A2 3 (r2.map I)) (h3 : Sl w A3 3 (r3.map I)) (h4 : Sl w A4 3 (r4.map I)) :
    SlRows (w.alloc (.cells #[.slice A1 3 3, .slice A2 3 3, .slice A3 3 3, .slice A4 3 3] t)) (some ⟨b, 0, none⟩) 4 [r1, r2, r3, r4] := by
  subst hb
  have k : 3 ≤ maxLen := by unfold maxLen; omega
  have l1 : r1.length = 3 := h1.len
  have l2 : r2.length = 3 := h2.len
  have l3 : r3.length = 3 := h3.len
  have l4 : r4.length = 3 := h4.len
  have cell : ∀ (j : Nat) (v : Value), #[Value.slice A1 3 3, .slice A2 3 3, .slice A3 3 3, .slice A4 3 3][j]? = some v → (w.alloc (.cells #[.slice A1 3 3, .slice A2 3 3, .slice A3 3 3, .slice A4 3 3] t)).cell? ⟨w.heap.size, 0 + j, none⟩ = some v := fun j v h => by
    rw [Nat.zero_add, World.cell?_alloc_new]; exact h
  refine ⟨rfl, fun j r hr => ?_⟩
  rcases j with _ | _ | _ | _ | j
  · injection hr with e; subst e
    exact ⟨_, 0, A1, 3, rfl, by rw [l1]; exact cell 0 _ rfl, by rw [l1]; exact h1.keep (Keeps.alloc _ _), by omega, k⟩
  · injection hr with e; subst e
    exact ⟨_, 0, A2, 3, rfl, by rw [l2]; exact cell 1 _ rfl, by rw [l2]; exact h2.keep (Keeps.alloc _ _), by omega, k⟩
  · injection hr with e; subst e
    exact ⟨_, 0, A3, 3, rfl, by rw [l3]; exact cell 2 _ rfl, by rw [l3]; exact h3.keep (Keeps.alloc _ _), by omega, k⟩
  · injection hr with e; subst e
    exact ⟨_, 0, A4, 3, rfl, by rw [l4]; exact cell 3 _ rfl, by rw [l4]; exact h4.keep (Keeps.alloc _ _), by omega, k⟩
  · simp at hr
theorem frun_lit (A : Option Addr) (n c : Nat) (p : List PNode) (B : Option Addr) (m d : Nat) (l : List Int) (rows : List (List Int)) (x : Int) (k : Nat) (w : World) (hk : rows.length = k) (hE : runErr p l = x) (hV : runRows p l = rows) (h : SlN w A n p) (hn : n ≤ 1000) (hl : Sl w B m (l.map I)) (hm : m ≤ 1000) :
    Calls Try.prog 7 #[.slice A n c, .slice B m d] w fun e w' => ∃ A c, e = .returned (Pr (.slice A k c) (I x)) ∧ SlRows w' A k rows ∧ Ext w w' :=
  (frun_any A n c p B m d l w h (ml_small hn) hl (ml_small hm)).mono fun e w' ⟨v, vs, he, h1, hx⟩ => by
    rw [hE] at he
    rw [hV] at h1
    obtain ⟨A, c, rfl, -, -, hs⟩ := h1.slice
    rw [hk] at he hs
    exact ⟨A, c, he, hs, hx⟩
set_option maxRecDepth 100000 in
set_option maxHeartbeats 8000000 in
theorem forgeBegun_any (w : World) : Calls Try.prog 12 #[] w fun e w' => e = .returned (.bool true) ∧ Ext w w' := by
  have F := net_facts fplay_check
  have hE : runE (netR playM) [0, 1, 0, 7] = 0 := by rw [F.runE]; decide
  have hV : (runV (netR playM) [0, 1, 0, 7]).1 = [[0, 0, 0], [1, 1, 0], [0, 0, 1], [0, 0, 0]] := by rw [F.runV _ (by decide), fplay_rows]
  have HF := Lib.hid F; have HE := Lib.hid hE; have HV := Lib.hid hV
  clear F hE hV
  go_enter Try.func12, Try.ntmps12
  go_wp2_with fail
  refine (fplay_ok w).mono ?_; rintro e w1 ⟨b1, rfl, hp, x1⟩
  have HP := Lib.hid hp; have X1 := Lib.hid x1; clear hp x1
  go_wp2_with fail
  refine (net_any _ 13 13 playM w1 HP.out (by unfold maxLen; omega)).mono ?_; rintro e w2 ⟨i, GA, gn, gc, RA, rn, rc, OA, on, oc, rfl, hN, x2⟩
  rw [fplay_check]
  have hi : i = 3 := by rw [hN.ins]; exact HF.out.ins
  have ho : on = 3 := by have := hN.outs.len; rw [HF.out.outs] at this; exact this.symm
  subst hi; subst ho
  obtain ⟨wf, hwf, hxf, hbf⟩ := netbox_mk w2 3 GA gn gc RA rn rc OA 3 oc
  have HN := Lib.hid (hN.keep hxf.keeps); have HBF := Lib.hid hbf; have HWF := Lib.hid hwf; have XF := Lib.hid (X1.out.trans (x2.trans hxf))
  clear hN x2 hwf hxf hbf HP X1
  go_wp2_with fail
  rw [← HWF.out]
  refine (fplay_ok wf).mono ?_; rintro e w3 ⟨b3, rfl, hp, x3⟩
  have HP := Lib.hid hp; have X3 := Lib.hid x3; clear hp x3
  go_wp2_with fail
  refine (frun_lit _ 13 13 playM _ 4 4 [0, 1, 0, 7] [[0, 0, 0], [1, 1, 0], [0, 0, 1], [0, 0, 0]] 0 4 _ rfl fplay_err fplay_rows (HP.out.keep (Keeps.alloc _ _)) (by omega) (Sl.newAt _ _ [I 0, I 1, I 0, I 7] _ rfl) (by omega)).mono ?_
  rintro e w4 ⟨L, lc, rfl, hl, x4⟩
  have hx := (X3.out.alloc _).trans x4
  obtain ⟨q0, q1, q2, q3⟩ := HBF.out.keep hx.keeps
  have SL := Lib.hid hl; have X4 := Lib.hid hx; clear hl x4 hx X3 HP
  go_wp2_with fail
  refine (run_any 3 GA gn gc RA rn rc OA 3 oc (netR playM) _ 4 4 [0, 1, 0, 7] _ (HN.out.keep (X4.out.alloc _).keeps) (Sl.newAt _ _ [I 0, I 1, I 0, I 7] _ rfl) (by unfold maxLen; omega)).mono ?_
  rintro e w5 ⟨vo, vn, vs, rfl, h1, h2, x5⟩
  rw [HE.out]
  rw [HV.out] at h1
  obtain ⟨M, mc, rfl, -, -, hm⟩ := h1.slice
  obtain ⟨VA, vc, rfl, -, -, -⟩ := own_sl h2
  have hx := ((Ext.refl w4).alloc _).trans x5
  have SL5 := Lib.hid (SL.out.keep hx.keeps); have SM := Lib.hid hm; have X5 := Lib.hid (X4.out.trans hx); clear h1 h2 hm x5 hx SL X4 q0 q1 q2 q3
  rw [show ([[0, 0, 0], [1, 1, 0], [0, 0, 1], [0, 0, 0]] : List (List Int)).length = 4 from rfl] at SM ⊢
  go_wp2_with fail
  refine (fplay_ok w5).mono ?_; rintro e w6 ⟨b6, rfl, hp, x6⟩
  have HP := Lib.hid hp; have X6 := Lib.hid (X5.out.trans x6); have SL6 := Lib.hid (SL5.out.keep x6.keeps); have SM6 := Lib.hid (SM.out.keep x6.keeps); clear hp x6 SL5 SM X5
  go_wp2_with fail
  refine (size_any _ 13 13 playM w6 HP.out (by unfold maxLen; omega)).mono ?_; rintro e w7 ⟨rfl, x7⟩
  rw [if_pos fplay_check, if_pos fplay_check, fplay_check, fplay_waits]
  have X7 := Lib.hid (X6.out.trans x7); have SL7 := Lib.hid (SL6.out.keep x7.keeps); have SM7 := Lib.hid (SM6.out.keep x7.keeps); clear x7 SL6 SM6 X6 HP
  go_wp2_with fail
  refine (fplay_ok w7).mono ?_; rintro e w8 ⟨b8, rfl, hp, x8⟩
  have HP := Lib.hid hp; have X8 := Lib.hid (X7.out.trans x8); have SL8 := Lib.hid (SL7.out.keep x8.keeps); have SM8 := Lib.hid (SM7.out.keep x8.keeps); clear hp x8 SL7 SM7 X7
  go_wp2_with fail
  refine (frun_lit _ 13 13 playM _ 1 1 [8] [] 3 0 _ rfl fplay_err2 fplay_rows2 (HP.out.keep (Keeps.alloc _ _)) (by omega) (Sl.newAt _ _ [I 8] _ rfl) (by omega)).mono ?_
  rintro e w9 ⟨L9, lc9, rfl, -, x9⟩
  have hx := ((Ext.refl w8).alloc _).trans x9
  have X9 := Lib.hid (X8.out.trans hx); have SL9 := Lib.hid (SL8.out.keep hx.keeps); have SM9 := Lib.hid (SM8.out.keep hx.keeps); clear x9 hx SL8 SM8 X8 HP
  obtain ⟨q0, q1, q2, q3⟩ := HBF.out.keep X9.out.keeps
  go_wp2_with fail
  refine (netCheck_any 3 GA gn gc RA rn rc OA 3 oc (netR playM) w9 (HN.out.keep X9.out.keeps)).mono ?_; rintro e w10 ⟨rfl, x10⟩
  rw [HF.out.check]
  clear q0 q1 q2 q3
  have X10 := Lib.hid (X9.out.trans x10); have SL10 := Lib.hid (SL9.out.keep x10.keeps); have SM10 := Lib.hid (SM9.out.keep x10.keeps); clear x10 SL9 SM9 X9
  obtain ⟨q0, q1, q2, q3⟩ := HBF.out.keep X10.out.keeps
  go_wp2_with fail
  refine (rows_lit _ _ 4 _ _ [[0, 0, 0], [1, 1, 0], [0, 0, 1], [0, 0, 0]] _ (SL10.out.keep ((((Keeps.alloc _ _).trans (Keeps.alloc _ _)).trans ((Keeps.alloc _ _).trans (Keeps.alloc _ _))).trans (Keeps.alloc _ _))) (SlRows.new4 _ _ (by simp) _ _ _ _ [0, 0, 0] [1, 1, 0] [0, 0, 1] [0, 0, 0] _ ((Sl.newAt _ _ [I 0, I 0, I 0] _ rfl).keep (((Keeps.alloc _ _).trans (Keeps.alloc _ _)).trans (Keeps.alloc _ _))) ((Sl.newAt _ _ [I 1, I 1, I 0] _ (by simp)).keep ((Keeps.alloc _ _).trans (Keeps.alloc _ _))) ((Sl.newAt _ _ [I 0, I 0, I 1] _ (by simp)).keep (Keeps.alloc _ _)) (Sl.newAt _ _ [I 0, I 0, I 0] _ (by simp))) (by omega)).mono ?_; rintro e w11 ⟨rfl, x11⟩
  have hx := (((((Ext.refl w10).alloc _).alloc _).alloc _).alloc _).alloc _ |>.trans x11
  have X11 := Lib.hid (X10.out.trans hx); have SL11 := Lib.hid (SL10.out.keep hx.keeps); have SM11 := Lib.hid (SM10.out.keep hx.keeps); clear x11 hx SL10 SM10 X10 q0 q1 q2 q3
  go_wp2_with fail
  refine (rows_lit _ _ 4 _ _ [[0, 0, 0], [1, 1, 0], [0, 0, 1], [0, 0, 0]] _ SL11.out SM11.out (by omega)).mono ?_; rintro e w12 ⟨rfl, x12⟩
  go_wp2
  go_ret
  exact ⟨rfl, (XF.out.trans X11.out).trans x12⟩
end Go.Proofs.Ytlafiddfplhafaa
