/- States and Bad, by the program. -/
import Derived.Test.YtjagbnaacfhokaaRc17
import Derived.Test.YtjagbnaacfhokaaRc07
namespace Go.Proofs.Ytjagbnaacfhokaa
set_option linter.unusedVariables false
set_option linter.unusedSimpArgs false
open Go.RowKit

def statesE (N : NetM) : Int := if checkN N ≠ 0 then checkN N else match reachM N with | .bad _ => 6 | .many => 2 | .ok _ => 0
def statesV (N : NetM) : List (List Int) := if checkN N ≠ 0 then [] else match reachM N with | .ok ps => ps.map (·.1) | _ => []
def badW (N : NetM) : List Int := if checkN N ≠ 0 then [] else match reachM N with | .bad w => w | _ => []
def badIs (N : NetM) : Bool := if checkN N ≠ 0 then false else match reachM N with | .bad _ => true | _ => false
def badE (N : NetM) : Int := if checkN N ≠ 0 then checkN N else match reachM N with | .many => 2 | _ => 0
/-- What States tells. -/
def StatesP (w w' : World) (e : Ending) (x : Int) (rows : List (List Int)) : Prop := ∃ vr vs, e = .returned (Pr vr (I x)) ∧ OwnRows 24 3 w' w.heap.size vr rows vs ∧ Ext w w'
/-- What Bad tells. -/
def BadP (w w' : World) (e : Ending) (x : Int) (is : Bool) (way : List Int) : Prop := ∃ v, e = .returned (Pr3 v (Bv is) (I x)) ∧ w'.ownsRow w.heap.size 3 1 v way.length (way.map I) ∧ Ext w w'
theorem WalkerW.start (w : World) (i : Int) (G R O : Value) : WalkerW ((w.alloc (.map #[] 0)).alloc (.cells #[I i, G, R, O, .map (some w.heap.size), .slice none 0 0] 107)) w.heap.size (w.heap.size + 1) i G R O w.heap.size (.slice none 0 0) [] [] := by
  have hm := (MapK.made w).ext ((Ext.refl _).alloc (.cells #[I i, G, R, O, .map (some w.heap.size), .slice none 0 0] 107))
  refine ⟨?_, ⟨_, hm, SeenOf.start⟩, OwnP.nil _ _ _, by omega⟩
  have := Box.new (w.alloc (.map #[] 0)) [I i, G, R, O, .map (some w.heap.size), .slice none 0 0] 107
  simpa using this
section
variable (i : Int) (GA : Option Addr) (gn gc : Nat) (RA : Option Addr) (rn rc : Nat) (OA : Option Addr) (on oc : Nat) (N : NetM) (w : World)
set_option maxRecDepth 100000 in
set_option maxHeartbeats 8000000 in
theorem states_any (h : NetC w i GA gn gc RA rn rc OA on oc N) :
    Calls Try.prog 48 #[netV i GA gn gc RA rn rc OA on oc] w fun e w' => StatesP w w' e (statesE N) (statesV N) := by
  obtain ⟨W, hW⟩ : ∃ W, W = w.alloc (.cells #[I i, .slice GA gn gc, .slice RA rn rc, .slice OA on oc] 26) := ⟨_, rfl⟩
  have hxW : Ext w W := by rw [hW]; exact (Ext.refl _).alloc _
  have hbox : NetBox W w.heap.size i GA gn gc RA rn rc OA on oc := by rw [hW]; exact NetBox.new w i GA gn gc RA rn rc OA on oc _
  have HN := Lib.hid (h.keep hxW.keeps); have HBox := Lib.hid hbox; have HW := Lib.hid hW; have HX := Lib.hid hxW
  clear h hW hxW hbox
  have hmm := @run_makeMap Try.prog
  by_cases hc : checkN N = 0
  · have HC := Lib.hid hc
    clear hc
    have hE : Hid (statesE N = match reachM N with | .bad _ => 6 | .many => 2 | .ok _ => 0) := by unfold Hid statesE; rw [if_neg (by simp [HC.out])]
    have hV : Hid (statesV N = match reachM N with | .ok ps => ps.map (·.1) | _ => []) := by unfold Hid statesV; rw [if_neg (by simp [HC.out])]
    go_enter Try.func48, Try.ntmps48
    go_wp2_with fail
    rw [← HW.out]
    refine (netCheck_any i GA gn gc RA rn rc OA on oc N W HN.out).mono ?_; rintro e w1 ⟨rfl, x1⟩; rw [HC.out]
    obtain ⟨q0, q1, q2, q3⟩ := HBox.out.keep x1.keeps
    have X1 := Lib.hid (HX.out.trans x1)
    have HN1 := Lib.hid (HN.out.keep x1.keeps)
    clear x1
    go_upto_region 5 with fail
    clear hmm q0 q1 q2 q3
    obtain ⟨w2, hw2⟩ : ∃ w2, w2 = (w1.alloc (.map #[] 0)).alloc (.cells #[I i, .slice GA gn gc, .slice RA rn rc, .slice OA on oc, .map (some w1.heap.size), .slice none 0 0] 107) := ⟨_, rfl⟩
    have hx2 : Ext w1 w2 := by rw [hw2]; exact ((Ext.refl _).alloc _).alloc _
    have hwk : WalkerW w2 w1.heap.size (w1.heap.size + 1) i (.slice GA gn gc) (.slice RA rn rc) (.slice OA on oc) w1.heap.size (.slice none 0 0) [] [] := by rw [hw2]; exact WalkerW.start w1 _ _ _ _
    have X2 := Lib.hid hx2; have HWK := Lib.hid hwk; have HW2 := Lib.hid hw2
    clear hx2 hwk hw2
    rw [← HW2.out]
    go_wp2_with fail
    refine (walk_any i GA gn gc RA rn rc OA on oc N w1.heap.size (w1.heap.size + 1) w1.heap.size w1 w2 HN1.out HC.out X2.out (Nat.le_refl _) HWK.out).mono ?_
    rintro e w3 ⟨hbel, htold⟩
    have X3 := Lib.hid (Below.trans X2.out hbel : Ext w1 w3)
    clear hbel
    cases hr : reachM N with
    | bad way =>
      rw [hr] at htold hE hV
      obtain ⟨v, rfl, hv⟩ := htold
      have HE1 : Hid (statesE N = 6) := hE.out; have HV1 : Hid (statesV N = []) := hV.out
      clear hv hr hE hV
      go_wp2
      exact bodyPost_ret (v := Pr (.slice none 0 0) (I 6)) (by simp [results, Try.results48, go_sem]) rfl ⟨_, [], by rw [HE1.out], by rw [HV1.out]; exact OwnRows.nil _ _ _ _, Ext.trans X1.out X3.out⟩
    | many =>
      rw [hr] at htold hE hV
      obtain rfl : e = _ := htold
      have HE1 : Hid (statesE N = 2) := hE.out; have HV1 : Hid (statesV N = []) := hV.out
      clear hr hE hV
      go_wp2
      exact bodyPost_ret (v := Pr (.slice none 0 0) (I 2)) (by simp [results, Try.results48, go_sem]) rfl ⟨_, [], by rw [HE1.out], by rw [HV1.out]; exact OwnRows.nil _ _ _ _, Ext.trans X1.out X3.out⟩
    | ok ps =>
      rw [hr] at htold hE hV
      obtain ⟨rfl, s, vs, hwk⟩ := htold
      have hE1 : statesE N = 0 := hE.out; have hV1 : statesV N = ps.map (·.1) := hV.out
      have hfew := (reach_ok hr).1.few
      obtain ⟨b, hb⟩ : ∃ b, b = w1.heap.size + 1 := ⟨_, rfl⟩
      rw [← hb] at hwk
      rw [← hb]
      obtain ⟨pn, hpn⟩ : ∃ pn, pn = ps.length := ⟨_, rfl⟩
      obtain ⟨pA, pc, rfl, hpc1, hpc2, -⟩ := own_slice hwk.rows.row
      rw [← hpn] at hwk hpc1 hfew
      have m5 := (hwk.box.cell 5).trans rfl
      simp only [List.getElem?_cons_zero, List.getElem?_cons_succ] at m5
      have HE := Lib.hid hE1; have HV := Lib.hid hV1; have HWK3 := Lib.hid hwk; have HPN := Lib.hid hpn; have HFEW := Lib.hid hfew; have HPC := Lib.hid (And.intro hpc1 hpc2)
      clear hE1 hV1 hwk hpn hE hV hr hb
      go_wp2_with fail
      clear m5
      go_loopw [8, 33] (fun s j wr => ∃ (k : Nat), k ≤ pn ∧ j = .int .i64 k ∧ Ext w3 wr ∧ wr.ownsRow w3.heap.size 24 1 s k ((vs.take k).map (·.1))) (fun _ j _ => pn - (intOf j).toNat)
      case atStart => exact ⟨0, Nat.zero_le _, rfl, Ext.refl _, World.ownsRow_nil _ _ _ _⟩
      case round =>
        obtain ⟨k, hk, rfl, hext, hrows⟩ := hrel
        by_cases hlt : k < pn
        · have hwr := HWK3.out.ext hext
          obtain ⟨p, hp⟩ : ∃ p, ps[k]? = some p := ⟨_, List.getElem?_eq_getElem (by rw [← HPN.out]; exact hlt)⟩
          obtain ⟨v, hv⟩ : ∃ v, vs[k]? = some v := ⟨_, List.getElem?_eq_getElem (by have := hwr.rows.vl; have := HPN.out; omega)⟩
          obtain ⟨v1, v2⟩ := v
          obtain ⟨o1, o2⟩ := hwr.rows.own k _ _ hv hp
          have hrow := hwr.rows.row
          rw [← HPN.out] at hrow
          obtain ⟨pb, pcc, ep⟩ := own_form hrow (by omega)
          have eA : pA = some ⟨pb, 0, none⟩ := by injection ep
          clear ep
          subst eA
          obtain ⟨e1, e2⟩ := placeCs_at vs k _ hv
          have c1' := hrow.cellAt (k * 2) (by omega)
          have c2' := hrow.cellAt (k * 2 + 1) (by omega)
          rw [e1] at c1'
          rw [e2] at c2'
          obtain ⟨pr, hpr⟩ : ∃ pr, pr = p.1.length := ⟨_, rfl⟩
          obtain ⟨pw, hpw⟩ : ∃ pw, pw = p.2.length := ⟨_, rfl⟩
          rw [← hpr] at o1
          rw [← hpw] at o2
          obtain ⟨XA, xc, rfl, -, -, -⟩ := own_sl o1
          obtain ⟨YA, yc, rfl, -, -, -⟩ := own_sl o2
          have hpc := HPC.out
          have hpc1 := hpc.1
          have hpc2 := hpc.2
          have hfew := HFEW.out
          have ht2 : (vs.take (k + 1)).map (fun x : Value × Value => x.1) = (vs.take k).map (fun x : Value × Value => x.1) ++ [.slice XA pr xc] := by rw [List.take_add_one, hv]; simp
          obtain ⟨w4, hw4⟩ : ∃ w4, w4 = wr.alloc (.cells #[.slice XA pr xc, .slice YA pw yc] 110) := ⟨_, rfl⟩
          have hx4 : Ext wr w4 := by rw [hw4]; exact (Ext.refl _).alloc _
          have HE4 := Lib.hid (hext.trans hx4); have HR4 := Lib.hid (own_ext hrows hx4); have HT2 := Lib.hid ht2; have HW4 := Lib.hid hw4
          clear hwr hp hv o1 o2 hrow e1 e2 hpr hpw ht2 hw4 hx4 hext hrows hpc
          go_wp2_with (at_builtin; refine wpList_pushB rfl (.tmp 37) (.tmp 40) 57 24 rfl tab_ints Try.underlying57 rfl (by omega) w3 w4 HE4.out _ k _ rfl HR4.out [.slice XA pr xc] rfl (by rw [HW4.out]) (wr.heap.size + 1) rfl (by rw [HW4.out]; simp) (by simp [Value.oneCell']) (by unfold maxLen; omega) (by omega) ?_; intro v' w5 hown5 hx5 hg5)
          go_roundw
          case rel => exact ⟨k + 1, by omega, by go_num, hx5, by rw [HT2.out]; exact hown5⟩
          case measure => simp [intOf]; omega
        · obtain rfl : k = pn := by omega
          have hwr := HWK3.out.ext hext
          have ht1 : vs.take k = vs := List.take_of_length_le (by rw [hwr.rows.vl, HPN.out]; exact Nat.le_refl _)
          rw [ht1] at hrows
          have hro : OwnRows 24 3 wr w1.heap.size u8 (ps.map (·.1)) (vs.map (·.1)) := by
            refine ⟨by rw [List.length_map, ← HPN.out]; exact own_base hrows (Ext.size X3.out), fun j v r hv hr => ?_⟩
            rw [List.getElem?_map, Option.map_eq_some_iff] at hv hr
            obtain ⟨v', hv, rfl⟩ := hv
            obtain ⟨p, hp, rfl⟩ := hr
            exact (hwr.rows.own j v' p hv hp).1
          have HRO := Lib.hid hro; have HXX := Lib.hid hext
          clear hrows hext ht1 hro hwr
          go_wp2
          exact bodyPost_ret (v := Pr u8 (I 0)) (by simp [results, Try.results48, go_sem]) rfl ⟨_, _, by rw [HE.out], by rw [HV.out]; exact HRO.out.base_le X1.out.size, Ext.trans X1.out (Ext.trans X3.out HXX.out)⟩
  · have HC := Lib.hid hc
    have hc' := hc
    have hE : Hid (statesE N = checkN N) := by unfold Hid statesE; rw [if_pos HC.out]
    have hV : Hid (statesV N = []) := by unfold Hid statesV; rw [if_pos HC.out]
    obtain ⟨x, hx⟩ : ∃ x, x = checkN N := ⟨_, rfl⟩
    rw [← hx] at hE hc'
    have HXE := Lib.hid hx
    clear hx hc HC
    go_enter Try.func48, Try.ntmps48
    go_wp2_with fail
    rw [← HW.out]
    refine (netCheck_any i GA gn gc RA rn rc OA on oc N W HN.out).mono ?_; rintro e w1 ⟨rfl, x1⟩; rw [← HXE.out]
    have X1 := Lib.hid (HX.out.trans x1)
    clear x1
    go_wp2
    exact bodyPost_ret (v := Pr (.slice none 0 0) (I x)) (by simp [results, Try.results48, go_sem]) rfl ⟨_, [], by rw [hE.out], by rw [hV.out]; exact OwnRows.nil _ _ _ _, X1.out⟩
set_option maxRecDepth 100000 in
set_option maxHeartbeats 8000000 in
theorem bad_any (h : NetC w i GA gn gc RA rn rc OA on oc N) :
    Calls Try.prog 52 #[netV i GA gn gc RA rn rc OA on oc] w fun e w' => BadP w w' e (badE N) (badIs N) (badW N) := by
  obtain ⟨W, hW⟩ : ∃ W, W = w.alloc (.cells #[I i, .slice GA gn gc, .slice RA rn rc, .slice OA on oc] 26) := ⟨_, rfl⟩
  have hxW : Ext w W := by rw [hW]; exact (Ext.refl _).alloc _
  have hbox : NetBox W w.heap.size i GA gn gc RA rn rc OA on oc := by rw [hW]; exact NetBox.new w i GA gn gc RA rn rc OA on oc _
  have HN := Lib.hid (h.keep hxW.keeps); have HBox := Lib.hid hbox; have HW := Lib.hid hW; have HX := Lib.hid hxW
  clear h hW hxW hbox
  have hmm := @run_makeMap Try.prog
  by_cases hc : checkN N = 0
  · have HC := Lib.hid hc
    clear hc
    have hE : Hid (badE N = match reachM N with | .many => 2 | _ => 0) := by unfold Hid badE; rw [if_neg (by simp [HC.out])]
    have hI : Hid (badIs N = match reachM N with | .bad _ => true | _ => false) := by unfold Hid badIs; rw [if_neg (by simp [HC.out])]
    have hV : Hid (badW N = match reachM N with | .bad w => w | _ => []) := by unfold Hid badW; rw [if_neg (by simp [HC.out])]
    go_enter Try.func52, Try.ntmps52
    go_wp2_with fail
    rw [← HW.out]
    refine (netCheck_any i GA gn gc RA rn rc OA on oc N W HN.out).mono ?_; rintro e w1 ⟨rfl, x1⟩; rw [HC.out]
    obtain ⟨q0, q1, q2, q3⟩ := HBox.out.keep x1.keeps
    have X1 := Lib.hid (HX.out.trans x1)
    have HN1 := Lib.hid (HN.out.keep x1.keeps)
    clear x1
    go_upto_region 5 with fail
    clear hmm q0 q1 q2 q3
    obtain ⟨w2, hw2⟩ : ∃ w2, w2 = (w1.alloc (.map #[] 0)).alloc (.cells #[I i, .slice GA gn gc, .slice RA rn rc, .slice OA on oc, .map (some w1.heap.size), .slice none 0 0] 107) := ⟨_, rfl⟩
    have hx2 : Ext w1 w2 := by rw [hw2]; exact ((Ext.refl _).alloc _).alloc _
    have hwk : WalkerW w2 w1.heap.size (w1.heap.size + 1) i (.slice GA gn gc) (.slice RA rn rc) (.slice OA on oc) w1.heap.size (.slice none 0 0) [] [] := by rw [hw2]; exact WalkerW.start w1 _ _ _ _
    have X2 := Lib.hid hx2; have HWK := Lib.hid hwk; have HW2 := Lib.hid hw2
    clear hx2 hwk hw2
    rw [← HW2.out]
    go_wp2_with fail
    refine (walk_any i GA gn gc RA rn rc OA on oc N w1.heap.size (w1.heap.size + 1) w1.heap.size w1 w2 HN1.out HC.out X2.out (Nat.le_refl _) HWK.out).mono ?_
    rintro e w3 ⟨hbel, htold⟩
    have X3 := Lib.hid (Below.trans X2.out hbel : Ext w1 w3)
    clear hbel
    cases hr : reachM N with
    | bad way =>
      rw [hr] at htold hE hV hI
      obtain ⟨v, rfl, hv⟩ := htold
      have HE1 : Hid (badE N = 0) := hE.out; have HV1 : Hid (badW N = way) := hV.out; have HI1 : Hid (badIs N = true) := hI.out
      have HOV := Lib.hid hv
      clear hv hr hE hV hI
      go_wp2
      exact bodyPost_ret (v := Pr3 v (.bool true) (I 0)) (by simp [results, Try.results52, go_sem]) rfl ⟨_, by rw [HE1.out, HI1.out], by rw [HV1.out]; exact own_base HOV.out X1.out.size, Ext.trans X1.out X3.out⟩
    | many =>
      rw [hr] at htold hE hV hI
      obtain rfl : e = _ := htold
      have HE1 : Hid (badE N = 2) := hE.out; have HV1 : Hid (badW N = []) := hV.out; have HI1 : Hid (badIs N = false) := hI.out
      clear hr hE hV hI
      go_wp2
      exact bodyPost_ret (v := Pr3 (.slice none 0 0) (.bool false) (I 2)) (by simp [results, Try.results52, go_sem]) rfl ⟨_, by rw [HE1.out, HI1.out], by rw [HV1.out]; exact World.ownsRow_nil _ _ _ _, Ext.trans X1.out X3.out⟩
    | ok ps =>
      rw [hr] at htold hE hV hI
      obtain ⟨rfl, s, vs, hwk⟩ := htold
      have HE1 : Hid (badE N = 0) := hE.out; have HV1 : Hid (badW N = []) := hV.out; have HI1 : Hid (badIs N = false) := hI.out
      clear hr hE hV hI hwk
      go_wp2
      exact bodyPost_ret (v := Pr3 (.slice none 0 0) (.bool false) (I 0)) (by simp [results, Try.results52, go_sem]) rfl ⟨_, by rw [HE1.out, HI1.out], by rw [HV1.out]; exact World.ownsRow_nil _ _ _ _, Ext.trans X1.out X3.out⟩
  · have HC := Lib.hid hc
    have hc' := hc
    have hE : Hid (badE N = checkN N) := by unfold Hid badE; rw [if_pos HC.out]
    have hI : Hid (badIs N = false) := by unfold Hid badIs; rw [if_pos HC.out]
    have hV : Hid (badW N = []) := by unfold Hid badW; rw [if_pos HC.out]
    obtain ⟨x, hx⟩ : ∃ x, x = checkN N := ⟨_, rfl⟩
    rw [← hx] at hE hc'
    have HXE := Lib.hid hx
    clear hx hc HC
    go_enter Try.func52, Try.ntmps52
    go_wp2_with fail
    rw [← HW.out]
    refine (netCheck_any i GA gn gc RA rn rc OA on oc N W HN.out).mono ?_; rintro e w1 ⟨rfl, x1⟩; rw [← HXE.out]
    have X1 := Lib.hid (HX.out.trans x1)
    clear x1
    go_wp2
    exact bodyPost_ret (v := Pr3 (.slice none 0 0) (.bool false) (I x)) (by simp [results, Try.results52, go_sem]) rfl ⟨_, by rw [hE.out, hI.out], by rw [hV.out]; exact World.ownsRow_nil _ _ _ _, X1.out⟩
end
end Go.Proofs.Ytjagbnaacfhokaa
