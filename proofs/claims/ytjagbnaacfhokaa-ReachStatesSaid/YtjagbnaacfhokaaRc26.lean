/- StatesOf and BadOf by the reference; what must be in any case of reach; the bodies of ReachStates and ReachBad. -/
import Derived.Test.YtjagbnaacfhokaaRc19
import Derived.Test.YtjagbnaacfhokaaRc25
import Derived.Test.YtjagbnaacfhokaaRc03
namespace Go.Proofs.Ytjagbnaacfhokaa
set_option linter.unusedVariables false
set_option linter.unusedSimpArgs false
open Go.RowKit

section
variable (i : Int) (GA : Option Addr) (gn gc : Nat) (RA : Option Addr) (rn rc : Nat) (OA : Option Addr) (on oc : Nat) (N : NetM) (w : World)
set_option maxRecDepth 100000 in
set_option maxHeartbeats 8000000 in
theorem rstates_any (h : NetC w i GA gn gc RA rn rc OA on oc N) (hlo : -9223372036854775808 ≤ i) :
    Calls Try.prog 49 #[netV i GA gn gc RA rn rc OA on oc] w fun e w' => StatesP w w' e (statesE N) (statesV N) := by
  obtain ⟨W, hW⟩ : ∃ W, W = w.alloc (.cells #[I i, .slice GA gn gc, .slice RA rn rc, .slice OA on oc] 26) := ⟨_, rfl⟩
  have hxW : Ext w W := by rw [hW]; exact (Ext.refl _).alloc _
  have hbox : NetBox W w.heap.size i GA gn gc RA rn rc OA on oc := by rw [hW]; exact NetBox.new w i GA gn gc RA rn rc OA on oc _
  have HN := Lib.hid (h.keep hxW.keeps); have HBox := Lib.hid hbox; have HW := Lib.hid hW; have HX := Lib.hid hxW
  clear h hW hxW hbox
  by_cases hc : checkN N = 0
  · have HC := Lib.hid hc
    clear hc
    have hE : Hid (statesE N = match reachM N with | .bad _ => 6 | .many => 2 | .ok _ => 0) := by unfold Hid statesE; rw [if_neg (by simp [HC.out])]; cases reachM N <;> rfl
    have hV : Hid (statesV N = match reachM N with | .ok ps => ps.map (·.1) | _ => []) := by unfold Hid statesV; rw [if_neg (by simp [HC.out])]; cases reachM N <;> rfl
    go_enter Try.func49, Try.ntmps49
    go_wp2_with fail
    rw [← HW.out]
    refine (rnet_any i GA gn gc RA rn rc OA on oc N W HN.out hlo).mono ?_; rintro e w1 ⟨rfl, x1⟩; rw [HC.out]
    obtain ⟨q0, q1, q2, q3⟩ := HBox.out.keep x1.keeps
    have X1 := Lib.hid (HX.out.trans x1)
    have HN1 := Lib.hid (HN.out.keep x1.keeps)
    clear x1
    go_wp2_with fail
    refine (rreach_any i GA gn gc RA rn rc OA on oc N w1 HN1.out HC.out).mono ?_
    rintro e w3 ⟨x3, htold⟩
    have X3 := Lib.hid x3
    clear x3 q0 q1 q2 q3
    cases hr : reachM N with
    | bad way =>
      rw [hr] at htold hE hV
      obtain ⟨v, rfl, hv⟩ := htold
      have HE1 : Hid (statesE N = 6) := hE.out; have HV1 : Hid (statesV N = []) := hV.out
      clear hv hr hE hV
      go_wp2
      exact bodyPost_ret (v := Pr (.slice none 0 0) (I 6)) (by simp [results, Try.results49, go_sem]) rfl ⟨_, [], by rw [HE1.out], by rw [HV1.out]; exact OwnRows.nil _ _ _ _, Ext.trans X1.out X3.out⟩
    | many =>
      rw [hr] at htold hE hV
      obtain rfl : e = _ := htold
      have HE1 : Hid (statesE N = 2) := hE.out; have HV1 : Hid (statesV N = []) := hV.out
      clear hr hE hV
      go_wp2
      exact bodyPost_ret (v := Pr (.slice none 0 0) (I 2)) (by simp [results, Try.results49, go_sem]) rfl ⟨_, [], by rw [HE1.out], by rw [HV1.out]; exact OwnRows.nil _ _ _ _, Ext.trans X1.out X3.out⟩
    | ok ps =>
      rw [hr] at htold hE hV
      obtain ⟨v, vs, rfl, hrows⟩ := htold
      have HE1 : Hid (statesE N = 0) := hE.out; have HV1 : Hid (statesV N = ps.map (·.1)) := hV.out
      have HRO := Lib.hid hrows
      clear hrows hr hE hV
      go_wp2
      exact bodyPost_ret (v := Pr v (I 0)) (by simp [results, Try.results49, go_sem]) rfl ⟨_, vs, by rw [HE1.out], by rw [HV1.out]; exact HRO.out.base_le X1.out.size, Ext.trans X1.out X3.out⟩
  · have HC := Lib.hid hc
    have hc' := hc
    have hE : Hid (statesE N = checkN N) := by unfold Hid statesE; rw [if_pos HC.out]
    have hV : Hid (statesV N = []) := by unfold Hid statesV; rw [if_pos HC.out]
    obtain ⟨x, hx⟩ : ∃ x, x = checkN N := ⟨_, rfl⟩
    rw [← hx] at hE hc'
    have HXE := Lib.hid hx
    clear hx hc HC
    go_enter Try.func49, Try.ntmps49
    go_wp2_with fail
    rw [← HW.out]
    refine (rnet_any i GA gn gc RA rn rc OA on oc N W HN.out hlo).mono ?_; rintro e w1 ⟨rfl, x1⟩; rw [← HXE.out]
    have X1 := Lib.hid (HX.out.trans x1)
    clear x1
    go_wp2
    exact bodyPost_ret (v := Pr (.slice none 0 0) (I x)) (by simp [results, Try.results49, go_sem]) rfl ⟨_, [], by rw [hE.out], by rw [hV.out]; exact OwnRows.nil _ _ _ _, X1.out⟩
set_option maxRecDepth 100000 in
set_option maxHeartbeats 8000000 in
theorem rbad_any (h : NetC w i GA gn gc RA rn rc OA on oc N) (hlo : -9223372036854775808 ≤ i) :
    Calls Try.prog 53 #[netV i GA gn gc RA rn rc OA on oc] w fun e w' => BadP w w' e (badE N) (badIs N) (badW N) := by
  obtain ⟨W, hW⟩ : ∃ W, W = w.alloc (.cells #[I i, .slice GA gn gc, .slice RA rn rc, .slice OA on oc] 26) := ⟨_, rfl⟩
  have hxW : Ext w W := by rw [hW]; exact (Ext.refl _).alloc _
  have hbox : NetBox W w.heap.size i GA gn gc RA rn rc OA on oc := by rw [hW]; exact NetBox.new w i GA gn gc RA rn rc OA on oc _
  have HN := Lib.hid (h.keep hxW.keeps); have HBox := Lib.hid hbox; have HW := Lib.hid hW; have HX := Lib.hid hxW
  clear h hW hxW hbox
  by_cases hc : checkN N = 0
  · have HC := Lib.hid hc
    clear hc
    have hE : Hid (badE N = match reachM N with | .many => 2 | _ => 0) := by unfold Hid badE; rw [if_neg (by simp [HC.out])]; cases reachM N <;> rfl
    have hI : Hid (badIs N = match reachM N with | .bad _ => true | _ => false) := by unfold Hid badIs; rw [if_neg (by simp [HC.out])]; cases reachM N <;> rfl
    have hV : Hid (badW N = match reachM N with | .bad w => w | _ => []) := by unfold Hid badW; rw [if_neg (by simp [HC.out])]; cases reachM N <;> rfl
    go_enter Try.func53, Try.ntmps53
    go_wp2_with fail
    rw [← HW.out]
    refine (rnet_any i GA gn gc RA rn rc OA on oc N W HN.out hlo).mono ?_; rintro e w1 ⟨rfl, x1⟩; rw [HC.out]
    obtain ⟨q0, q1, q2, q3⟩ := HBox.out.keep x1.keeps
    have X1 := Lib.hid (HX.out.trans x1)
    have HN1 := Lib.hid (HN.out.keep x1.keeps)
    clear x1
    go_wp2_with fail
    refine (rreach_any i GA gn gc RA rn rc OA on oc N w1 HN1.out HC.out).mono ?_
    rintro e w3 ⟨x3, htold⟩
    have X3 := Lib.hid x3
    clear x3 q0 q1 q2 q3
    cases hr : reachM N with
    | bad way =>
      rw [hr] at htold hE hV hI
      obtain ⟨v, rfl, hv⟩ := htold
      have HE1 : Hid (badE N = 0) := hE.out; have HV1 : Hid (badW N = way) := hV.out; have HI1 : Hid (badIs N = true) := hI.out
      have HOV := Lib.hid hv
      clear hv hr hE hV hI
      go_wp2
      exact bodyPost_ret (v := Pr3 v (.bool true) (I 0)) (by simp [results, Try.results53, go_sem]) rfl ⟨_, by rw [HE1.out, HI1.out], by rw [HV1.out]; exact own_base HOV.out X1.out.size, Ext.trans X1.out X3.out⟩
    | many =>
      rw [hr] at htold hE hV hI
      obtain rfl : e = _ := htold
      have HE1 : Hid (badE N = 2) := hE.out; have HV1 : Hid (badW N = []) := hV.out; have HI1 : Hid (badIs N = false) := hI.out
      clear hr hE hV hI
      go_wp2
      exact bodyPost_ret (v := Pr3 (.slice none 0 0) (.bool false) (I 2)) (by simp [results, Try.results53, go_sem]) rfl ⟨_, by rw [HE1.out, HI1.out], by rw [HV1.out]; exact World.ownsRow_nil _ _ _ _, Ext.trans X1.out X3.out⟩
    | ok ps =>
      rw [hr] at htold hE hV hI
      obtain ⟨v, vs, rfl, hrows⟩ := htold
      have HE1 : Hid (badE N = 0) := hE.out; have HV1 : Hid (badW N = []) := hV.out; have HI1 : Hid (badIs N = false) := hI.out
      clear hr hE hV hI hrows
      go_wp2
      exact bodyPost_ret (v := Pr3 (.slice none 0 0) (.bool false) (I 0)) (by simp [results, Try.results53, go_sem]) rfl ⟨_, by rw [HE1.out, HI1.out], by rw [HV1.out]; exact World.ownsRow_nil _ _ _ _, Ext.trans X1.out X3.out⟩
  · have HC := Lib.hid hc
    have hc' := hc
    have hE : Hid (badE N = checkN N) := by unfold Hid badE; rw [if_pos HC.out]
    have hI : Hid (badIs N = false) := by unfold Hid badIs; rw [if_pos HC.out]
    have hV : Hid (badW N = []) := by unfold Hid badW; rw [if_pos HC.out]
    obtain ⟨x, hx⟩ : ∃ x, x = checkN N := ⟨_, rfl⟩
    rw [← hx] at hE hc'
    have HXE := Lib.hid hx
    clear hx hc HC
    go_enter Try.func53, Try.ntmps53
    go_wp2_with fail
    rw [← HW.out]
    refine (rnet_any i GA gn gc RA rn rc OA on oc N W HN.out hlo).mono ?_; rintro e w1 ⟨rfl, x1⟩; rw [← HXE.out]
    have X1 := Lib.hid (HX.out.trans x1)
    clear x1
    go_wp2
    exact bodyPost_ret (v := Pr3 (.slice none 0 0) (.bool false) (I x)) (by simp [results, Try.results53, go_sem]) rfl ⟨_, by rw [hE.out, hI.out], by rw [hV.out]; exact World.ownsRow_nil _ _ _ _, X1.out⟩
end
section
variable {i : Int} {GA : Option Addr} {gn gc : Nat} {RA : Option Addr} {rn rc : Nat} {OA : Option Addr} {on oc : Nat} {N : NetM} {w : World}
theorem states_lit (rows : List (List Int)) (x : Int) (k : Nat) (hn : rows.length = k) (hE : statesE N = x) (hQ : statesV N = rows) (h : NetC w i GA gn gc RA rn rc OA on oc N) :
    Calls Try.prog 48 #[netV i GA gn gc RA rn rc OA on oc] w fun e w' => ∃ A c, e = .returned (Pr (.slice A k c) (I x)) ∧ SlRows w' A k rows ∧ Ext w w' :=
  (states_any i GA gn gc RA rn rc OA on oc N w h).mono fun e w' ⟨v, vs, he, h1, hx⟩ => by
    rw [hE] at he
    rw [hQ] at h1
    obtain ⟨A, c, rfl, -, -, hs⟩ := h1.slice
    rw [hn] at he hs
    exact ⟨A, c, he, hs, hx⟩
theorem bad_lit (way : List Int) (is : Bool) (x : Int) (k : Nat) (hn : way.length = k) (hE : badE N = x) (hI : badIs N = is) (hQ : badW N = way) (h : NetC w i GA gn gc RA rn rc OA on oc N) :
    Calls Try.prog 52 #[netV i GA gn gc RA rn rc OA on oc] w fun e w' => ∃ A c, e = .returned (Pr3 (.slice A k c) (.bool is) (I x)) ∧ Sl w' A k (way.map I) ∧ Ext w w' :=
  (bad_any i GA gn gc RA rn rc OA on oc N w h).mono fun e w' ⟨v, he, h1, hx⟩ => by
    rw [hE, hI] at he
    rw [hQ] at h1
    obtain ⟨A, c, rfl, -, -, hs⟩ := own_sl h1
    rw [hn] at he hs
    exact ⟨A, c, he, hs, hx⟩
end
theorem SlRows.new2 (w : World) (b : Nat) (hb : b = w.heap.size) (A1 A2 : Option Addr) (n1 n2 c1 c2 : Nat) (r1 r2 : List Int) (t : TypeId) (h1 : Sl w A1 n1 (r1.map I)) (h2 : Sl w A2 n2 (r2.map I)) (m1 : n1 ≤ c1 ∧ c1 ≤ 1000) (m2 : n2 ≤ c2 ∧ c2 ≤ 1000) :
    SlRows (w.alloc (.cells #[.slice A1 n1 c1, .slice A2 n2 c2] t)) (some ⟨b, 0, none⟩) 2 [r1, r2] := by
  subst hb
  have k := fun n h => @ml_small n h
  have l1 : r1.length = n1 := h1.len
  have l2 : r2.length = n2 := h2.len
  subst l1; subst l2
  have cell : ∀ (j : Nat) (v : Value), #[Value.slice A1 r1.length c1, .slice A2 r2.length c2][j]? = some v → (w.alloc (.cells #[.slice A1 r1.length c1, .slice A2 r2.length c2] t)).cell? ⟨w.heap.size, 0 + j, none⟩ = some v := fun j v h => by
    rw [Nat.zero_add, World.cell?_alloc_new]; exact h
  refine ⟨rfl, fun j r hr => ?_⟩
  rcases j with _ | _ | j
  · injection hr with e; subst e
    exact ⟨_, 0, A1, c1, rfl, cell 0 _ rfl, h1.keep (Keeps.alloc _ _), m1.1, k _ m1.2⟩
  · injection hr with e; subst e
    exact ⟨_, 0, A2, c2, rfl, cell 1 _ rfl, h2.keep (Keeps.alloc _ _), m2.1, k _ m2.2⟩
  · simp at hr
set_option maxRecDepth 100000 in
set_option maxHeartbeats 8000000 in
theorem reachBegun_any (w : World) : Calls Try.prog 50 #[] w fun e w' => e = .returned (.bool true) ∧ Ext w w' := by
  go_enter Try.func50, Try.ntmps50
  go_wp2_with fail
  refine (knot_ok w).mono ?_; rintro e w1 ⟨n1, rfl, hn, x1⟩
  have HN := Lib.hid hn; have X := Lib.hid x1; clear hn x1
  go_wp2_with fail
  refine (states_lit [[0], [1]] 0 2 rfl (by decide +kernel) (by decide +kernel) HN.out).mono ?_
  rintro e w2 ⟨A1', c1, rfl, hs1, x2⟩
  have SA := Lib.hid hs1; have X2 := Lib.hid (X.out.trans x2); clear hs1 x2 HN X
  go_wp2_with fail
  refine (loose_ok w2).mono ?_; rintro e w3 ⟨n2, rfl, hn, x3⟩
  have HN := Lib.hid hn; have X3 := Lib.hid x3; clear hn x3
  go_wp2_with fail
  refine (states_lit [] 6 0 rfl (by decide +kernel) (by decide +kernel) HN.out).mono ?_
  rintro e w4 ⟨A2, c2, rfl, -, x4⟩
  have hk := X3.out.trans x4
  have SA' := Lib.hid (SA.out.keep hk.keeps); have X4 := Lib.hid (X2.out.trans hk); clear hk x4 HN X3 X2 SA
  go_wp2_with fail
  refine (loose_ok w4).mono ?_; rintro e w5 ⟨n3, rfl, hn, x5⟩
  have HN := Lib.hid hn; have X5 := Lib.hid x5; clear hn x5
  go_wp2_with fail
  refine (bad_lit [0] true 0 1 rfl (by decide +kernel) (by decide +kernel) (by decide +kernel) HN.out).mono ?_
  rintro e w6 ⟨A3, c3, rfl, hs3, x6⟩
  have hk := X5.out.trans x6
  have SA := Lib.hid (SA'.out.keep hk.keeps); have SB := Lib.hid hs3; have X6 := Lib.hid (X4.out.trans hk); clear hk hs3 x6 HN X5 X4 SA'
  go_wp2_with fail
  refine (knot_ok w6).mono ?_; rintro e w7 ⟨n4, rfl, hn, x7⟩
  have HN := Lib.hid hn; have X7 := Lib.hid x7; clear hn x7
  go_wp2_with fail
  refine (bad_lit [] false 0 0 rfl (by decide +kernel) (by decide +kernel) (by decide +kernel) HN.out).mono ?_
  rintro e w8 ⟨A4, c4, rfl, -, x8⟩
  have hk := X7.out.trans x8
  have SA' := Lib.hid (SA.out.keep hk.keeps); have SB' := Lib.hid (SB.out.keep hk.keeps); have X8 := Lib.hid (X6.out.trans hk); clear hk x8 HN X7 X6 SA SB
  go_wp2_with fail
  refine (rows_lit _ _ 2 _ _ [[0], [1]] _ (SA'.out.keep ((Keeps.alloc _ _).trans ((Keeps.alloc _ _).trans (Keeps.alloc _ _)))) (SlRows.new2 _ _ (by simp) _ _ 1 1 1 1 [0] [1] _ ((Sl.newAt _ _ [I 0] _ rfl).keep (Keeps.alloc _ _)) (Sl.newAt _ _ [I 1] _ (by simp)) (by omega) (by omega)) (by omega)).mono ?_; rintro e w9 ⟨rfl, x9⟩
  have hk := (((Ext.refl w8).alloc _).alloc _).alloc _ |>.trans x9
  have SB := Lib.hid (SB'.out.keep hk.keeps); have X9 := Lib.hid (X8.out.trans hk); clear hk x9 X8 SA' SB'
  go_wp2_with fail
  refine (same_lit _ _ 1 _ _ [0] _ (SB.out.keep (Keeps.alloc _ _)) (Sl.newAt _ _ [I 0] _ rfl) (by omega)).mono ?_; rintro e wa ⟨rfl, xa⟩
  have hk := ((Ext.refl w9).alloc _).trans xa
  have XA := Lib.hid (X9.out.trans hk); clear hk xa X9 SB
  go_wp2
  go_ret
  exact ⟨by simp, XA.out⟩
end Go.Proofs.Ytjagbnaacfhokaa
/- The bodies of ReachStates and ReachBad, from the contracts. -/
namespace Go.Proofs.Ytjagbnaacfhokaa
set_option linter.unusedVariables false
set_option linter.unusedSimpArgs false
open Go.RowKit

section
variable (i : Int) (GA : Option Addr) (gn gc : Nat) (RA : Option Addr) (rn rc : Nat) (OA : Option Addr) (on oc : Nat) (N : NetM) (w : World)
set_option maxHeartbeats 2000000 in
theorem reachStates_walk (h : NetC w i GA gn gc RA rn rc OA on oc N) (hlo : -9223372036854775808 ≤ i) :
    Calls Try.prog 13 #[netV i GA gn gc RA rn rc OA on oc] w fun e w' => e = .returned (.bool true) ∧ Ext w w' := by
  obtain ⟨W, hW⟩ : ∃ W, W = w.alloc (.cells #[I i, .slice GA gn gc, .slice RA rn rc, .slice OA on oc] 26) := ⟨_, rfl⟩
  have hxW : Ext w W := by rw [hW]; exact (Ext.refl _).alloc _
  have hbox : NetBox W w.heap.size i GA gn gc RA rn rc OA on oc := by rw [hW]; exact NetBox.new w i GA gn gc RA rn rc OA on oc _
  have HN := Lib.hid (h.keep hxW.keeps); have HBox := Lib.hid hbox; have HW := Lib.hid hW; have HX := Lib.hid hxW
  clear h hW hxW hbox
  go_enter Try.func13, Try.ntmps13
  go_wp2_with fail
  rw [← HW.out]
  refine (states_any i GA gn gc RA rn rc OA on oc N W HN.out).mono ?_; rintro e w1 ⟨vo, vs, rfl, ho, x1⟩
  generalize hM : statesV N = M at *
  generalize hE : statesE N = E at *
  obtain ⟨A1', c1, rfl, n1, m1, hs1⟩ := ho.slice
  obtain ⟨q0, q1, q2, q3⟩ := HBox.out.keep x1.keeps
  have S1 := Lib.hid hs1; have X1 := Lib.hid x1; have HM := Lib.hid hM; have HE := Lib.hid hE; clear hs1 x1 ho hM hE
  go_wp2_with fail
  refine (rstates_any i GA gn gc RA rn rc OA on oc N w1 (HN.out.keep X1.out.keeps) hlo).mono ?_; rintro e w2 ⟨vo, vs', rfl, ho, x2⟩
  rw [HM.out] at ho
  rw [HE.out]
  obtain ⟨A2, c2, rfl, -, -, hs3⟩ := ho.slice
  have S1' := Lib.hid (S1.out.keep x2.keeps); have S3 := Lib.hid hs3; have X2 := Lib.hid (X1.out.trans x2); clear hs3 x2 ho q0 q1 q2 q3 S1
  go_wp2_with fail
  refine (reachBegun_any w2).mono ?_; rintro e w3 ⟨rfl, x3⟩
  have X3 := Lib.hid x3; clear x3
  go_wp2_with fail
  refine (sameRows_any A1' A2 _ _ c1 c2 M M w3 (S1'.out.keep X3.out.keeps) (S3.out.keep X3.out.keeps) (Nat.le_trans n1 m1) (Nat.le_trans n1 m1)).mono ?_; rintro e w4 ⟨rfl, x4⟩
  have X4 := Lib.hid (X3.out.trans x4); clear x4
  rw [decide_eq_true (rfl : M = M)]
  go_wp2
  go_ret
  exact ⟨by simp, HX.out.trans (X2.out.trans X4.out)⟩
set_option maxHeartbeats 2000000 in
theorem reachBad_walk (h : NetC w i GA gn gc RA rn rc OA on oc N) (hlo : -9223372036854775808 ≤ i) :
    Calls Try.prog 14 #[netV i GA gn gc RA rn rc OA on oc] w fun e w' => e = .returned (.bool true) ∧ Ext w w' := by
  obtain ⟨W, hW⟩ : ∃ W, W = w.alloc (.cells #[I i, .slice GA gn gc, .slice RA rn rc, .slice OA on oc] 26) := ⟨_, rfl⟩
  have hxW : Ext w W := by rw [hW]; exact (Ext.refl _).alloc _
  have hbox : NetBox W w.heap.size i GA gn gc RA rn rc OA on oc := by rw [hW]; exact NetBox.new w i GA gn gc RA rn rc OA on oc _
  have HN := Lib.hid (h.keep hxW.keeps); have HBox := Lib.hid hbox; have HW := Lib.hid hW; have HX := Lib.hid hxW
  clear h hW hxW hbox
  go_enter Try.func14, Try.ntmps14
  go_wp2_with fail
  rw [← HW.out]
  refine (bad_any i GA gn gc RA rn rc OA on oc N W HN.out).mono ?_; rintro e w1 ⟨vo, rfl, ho, x1⟩
  generalize hM : badW N = M at *
  generalize hE : badE N = E at *
  generalize hI : badIs N = B at *
  obtain ⟨A1', c1, rfl, n1, m1, hs1⟩ := own_sl ho
  obtain ⟨q0, q1, q2, q3⟩ := HBox.out.keep x1.keeps
  have S1 := Lib.hid hs1; have X1 := Lib.hid x1; have HM := Lib.hid hM; have HE := Lib.hid hE; have HI := Lib.hid hI; clear hs1 x1 ho hM hE hI
  go_wp2_with fail
  refine (rbad_any i GA gn gc RA rn rc OA on oc N w1 (HN.out.keep X1.out.keeps) hlo).mono ?_; rintro e w2 ⟨vo, rfl, ho, x2⟩
  rw [HM.out] at ho
  rw [HE.out, HI.out]
  obtain ⟨A2, c2, rfl, -, -, hs3⟩ := own_sl ho
  have S1' := Lib.hid (S1.out.keep x2.keeps); have S3 := Lib.hid hs3; have X2 := Lib.hid (X1.out.trans x2); clear hs3 x2 ho q0 q1 q2 q3 S1
  go_wp2_with fail
  refine (reachBegun_any w2).mono ?_; rintro e w3 ⟨rfl, x3⟩
  have X3 := Lib.hid x3; clear x3
  go_wp2_with fail
  refine (sameInts_any A1' A2 _ _ c1 c2 M M w3 (S1'.out.keep X3.out.keeps) (S3.out.keep X3.out.keeps) (Nat.le_trans n1 m1) (Nat.le_trans n1 m1)).mono ?_; rintro e w4 ⟨rfl, d, rfl⟩
  rw [decide_eq_true (rfl : M = M)]
  go_wp2
  go_ret
  exact ⟨by cases B <;> simp, (HX.out.trans (X2.out.trans X3.out)).drewN _⟩
end
end Go.Proofs.Ytjagbnaacfhokaa
/- choose: a place among n, from a raw number. -/
namespace Go.Proofs.Ytjagbnaacfhokaa
set_option linter.unusedVariables false
set_option linter.unusedSimpArgs false
open Go.RowKit

/-- choose: the raw number's place among n. -/
def chooseM (c n : Int) : Int := (if c < 0 then -(c + 1) else c) % n
theorem choose_any (c : Int) (n : Nat) (w : World) (hn : 0 < n) (hn2 : n ≤ 9223372036854775807) (hc1 : -9223372036854775808 ≤ c) (hc2 : c ≤ 9223372036854775807) :
    Calls Try.prog 28 #[I c, I n] w fun e w' => e = .returned (I (chooseM c n)) ∧ w = w' := by
  have hn0 : (0 : Int) < (n : Int) := by omega
  by_cases h : c < 0
  · have HM : Hid (-((c + 1).tmod n) = chooseM c n) := by
      unfold Hid chooseM; rw [if_pos h, ← Int.neg_tmod, Int.tmod_eq_emod_of_nonneg (by omega)]
    go_enter Try.func28, Try.ntmps28
    go_wp2
    go_ret; exact ⟨ret_int HM.out, rfl⟩
  · have HM : Hid (c % n = chooseM c n) := by unfold Hid chooseM; rw [if_neg h]
    go_enter Try.func28, Try.ntmps28
    go_wp2
    go_ret; exact ⟨ret_int HM.out, rfl⟩
theorem choose_range (c : Int) (n : Nat) (hn : 0 < n) : 0 ≤ chooseM c n ∧ chooseM c n < n :=
  ⟨Int.emod_nonneg _ (by omega), Int.emod_lt_of_pos _ (by omega)⟩

end Go.Proofs.Ytjagbnaacfhokaa
