/- Both Checks of a rest; Begin. -/
import Derived.Test.YtejpnbomlnifkaaWalkRef5
namespace Go.Proofs.Ytejpnbomlnifkaa
set_option linter.unusedVariables false
set_option linter.unusedSimpArgs false
open Go.RowKit

/-- A node whose wait a rest must not hold. -/
def badW (fr : Bool) (y : Bool × PNode) : Bool := y.1 && (fr || !waitK y.2.kind)
theorem checkR_of {p : List PNode} {r : RestM} (h1 : checkP p = 0) (h2 : r.waits.length = p.length) (h3 : r.outs.length = 3) : checkR p r = if (r.waits.zip p).any (badW r.fresh) then 1 else 0 := by
  simp only [checkR, h1, h2, h3]; simp; rfl
theorem restBox (w : World) (fr : Bool) (WA : Option Addr) (wn wc : Nat) (OA : Option Addr) (on oc : Nat) {W : World} (h : W = w.alloc (.cells #[Bv fr, .slice WA wn wc, .slice OA on oc] 39)) :
    W.cell? ⟨w.heap.size, 0, none⟩ = some (Bv fr) ∧ W.cell? ⟨w.heap.size, 1, none⟩ = some (.slice WA wn wc) ∧ W.cell? ⟨w.heap.size, 2, none⟩ = some (.slice OA on oc) ∧ w.heap.size < W.heap.size := by
  subst h
  refine ⟨?_, ?_, ?_, by simp⟩
  all_goals (rw [World.cell?_alloc_new]; rfl)
theorem badW_step {fr x : Bool} {V : List Bool} {p : List PNode} {k : Nat} {y : PNode} (hV : V[k]? = some x) (hp : p[k]? = some y) : ((V.drop k).zip (p.drop k)).any (badW fr) = (badW fr (x, y) || ((V.drop (k + 1)).zip (p.drop (k + 1))).any (badW fr)) := by
  have h1 := (List.getElem?_eq_some_iff.1 hV).1
  have h2 := (List.getElem?_eq_some_iff.1 hp).1
  rw [List.drop_eq_getElem_cons h1, List.drop_eq_getElem_cons h2, List.zip_cons_cons, List.any_cons]
  rw [List.getElem?_eq_getElem h1] at hV; rw [List.getElem?_eq_getElem h2] at hp
  injection hV with e1; injection hp with e2
  rw [e1, e2]

set_option maxHeartbeats 4000000 in
theorem walkCheck_any (PA : Option Addr) (n pc : Nat) (p : List PNode) (fr : Bool) (WA : Option Addr) (wn wc : Nat) (OA : Option Addr) (on oc : Nat) (r : RestM) (w : World)
    (hp : SlN w PA n p) (hr : RestC w fr WA wn wc OA on oc r) (hn : n ≤ maxLen) :
    Calls Try.prog 15 #[.slice PA n pc, restV fr WA wn wc OA on oc] w fun e w' => e = .returned (I (checkR p r)) ∧ Ext w w' := by
  generalize hR : checkR p r = R
  obtain ⟨W, hW⟩ : ∃ W, W = w.alloc (.cells #[Bv fr, .slice WA wn wc, .slice OA on oc] 39) := ⟨_, rfl⟩
  have hxW : Ext w W := by rw [hW]; exact (Ext.refl _).alloc _
  obtain ⟨q0, q1, q2, hsz⟩ := restBox w fr WA wn wc OA on oc hW
  have hpl := hp.1; have hwl := hr.waits.len; have hol := hr.outs.len; have hfr := hr.fresh
  have hwm := hr.wl
  have hom := hr.ol
  have HP := Lib.hid (hp.keep hxW.keeps); have HWA := Lib.hid (hr.waits.keep hxW.keeps)
  have CK := Lib.hid (progCheck_any PA n pc p W (hp.keep hxW.keeps) hn)
  have HW := Lib.hid hW; clear hp hr hW
  unfold checkR at hR
  unfold maxLen at hn hwm hom
  by_cases h0 : checkP p ≠ 0
  · rw [if_pos h0] at hR
    have HR := Lib.hid hR; clear hR q0 q1 q2
    go_enter Try.func15, Try.ntmps15
    go_wp2_with fail
    rw [← HW.out]
    refine CK.out.mono ?_; rintro e w1 ⟨rfl, hx1⟩
    go_wp2
    go_ret
    exact ⟨ret_int HR.out, hxW.trans hx1⟩
  rw [if_neg h0] at hR
  have h00 : checkP p = 0 := by simpa using h0
  clear h0
  by_cases h1 : r.waits.length ≠ p.length ∨ r.outs.length ≠ 3
  · rw [if_pos h1] at hR
    have HR := Lib.hid hR; have H00 := Lib.hid h00; clear hR h00
    have hd : wn ≠ n ∨ (wn = n ∧ on ≠ 3) := by omega
    clear h1 hpl hwl hol
    rcases hd with hd | ⟨rfl, hd⟩
    all_goals
      go_enter Try.func15, Try.ntmps15
      go_wp2_with fail
      rw [← HW.out]
      refine CK.out.mono ?_; rintro e w1 ⟨rfl, hx1⟩; rw [H00.out]
      have z1 := hx1.keeps _ _ q1; have z2 := hx1.keeps _ _ q2
      have hb1 := lt_of_cell z1
      go_wp2
      go_ret
      exact ⟨ret_int HR.out, hxW.trans hx1⟩
  rw [if_neg h1] at hR
  have hwn : wn = n := by omega
  have hon : on = 3 := by omega
  subst hwn; subst hon
  have HR : Hid ((if (r.waits.zip p).any (badW fr) then (1 : Int) else 0) = R) := by unfold Hid; rw [← hR, ← hfr]; rfl
  have H00 := Lib.hid h00; clear hR h00 h1 hpl hwl hol hfr
  go_enter Try.func15, Try.ntmps15
  go_wp2_with fail
  rw [← HW.out]
  refine CK.out.mono ?_; rintro e w1 ⟨rfl, hx1⟩; rw [H00.out]
  have z0 := hx1.keeps _ _ q0; have z1 := hx1.keeps _ _ q1; have z2 := hx1.keeps _ _ q2
  have hb1 := lt_of_cell z1
  clear q0 q1 q2
  go_wp2
  go_loop [6, 7, 28] (fun _ _ i => ∃ k : Nat, k ≤ wn ∧ i = .int .i64 k ∧ Hid (((r.waits.drop k).zip (p.drop k)).any (badW fr) = (r.waits.zip p).any (badW fr))) (fun _ _ i => wn - (intOf i).toNat)
  case atStart => exact ⟨0, Nat.zero_le _, rfl, rfl⟩
  case round =>
    obtain ⟨k, hk, rfl, hM⟩ := hrel
    by_cases hlt : k < wn
    · obtain ⟨wb, woff, x, rfl, hcx, hx⟩ := HWA.out.at_ hlt
      obtain ⟨pb, poff, y, rfl, hc0, hc1, -, hy⟩ := HP.out.next hlt
      have hst := badW_step (fr := fr) hx hy
      have d0 := hx1.keeps _ _ hcx; have d1 := hx1.keeps _ _ hc0
      have hdb := lt_of_cell d0; have hdb1 := lt_of_cell d1
      have HST := Lib.hid hst
      clear hst hx hy hcx hc0 hc1
      cases x
      · go_wp2
        go_round
        case rel => exact ⟨k + 1, by omega, by go_num, by unfold Hid; rw [← hM.out, HST.out]; simp [badW]⟩
        case measure => simp [intOf]; omega
      · cases fr
        · cases hwk : waitK y.kind
          · have HWK := Lib.hid hwk; clear hwk
            go_wp2_with (go_at_call 33; with_reducible refine (wait_any _ _).mono ?_; rintro e w' ⟨rfl, rfl⟩; rw [HWK.out])
            go_ret
            exact ⟨ret_int (by rw [← HR.out, ← hM.out, HST.out]; simp [badW, HWK.out]), hxW.trans hx1⟩
          · have HWK := Lib.hid hwk; clear hwk
            go_wp2_with (go_at_call 33; with_reducible refine (wait_any _ _).mono ?_; rintro e w' ⟨rfl, rfl⟩; rw [HWK.out])
            go_round
            case rel => exact ⟨k + 1, by omega, by go_num, by unfold Hid; rw [← hM.out, HST.out]; simp [badW, HWK.out]⟩
            case measure => simp [intOf]; omega
        · go_wp2
          go_ret
          exact ⟨ret_int (by rw [← HR.out, ← hM.out, HST.out]; simp [badW]), hxW.trans hx1⟩
    · have hkn : k = wn := by omega
      subst hkn
      go_wp2
      go_ret
      exact ⟨ret_int (by rw [← HR.out, ← hM.out]; rw [List.drop_eq_nil_of_le (by have := HP.out.1; omega : p.length ≤ k)]; simp), hxW.trans hx1⟩

set_option maxHeartbeats 4000000 in
theorem rCheckRest_any (PA : Option Addr) (n pc : Nat) (p : List PNode) (fr : Bool) (WA : Option Addr) (wn wc : Nat) (OA : Option Addr) (on oc : Nat) (r : RestM) (w : World)
    (hp : SlN w PA n p) (hr : RestC w fr WA wn wc OA on oc r) (hn : n ≤ maxLen) :
    Calls Try.prog 16 #[.slice PA n pc, restV fr WA wn wc OA on oc] w fun e w' => e = .returned (I (checkR p r)) ∧ Ext w w' := by
  generalize hR : checkR p r = R
  obtain ⟨W, hW⟩ : ∃ W, W = w.alloc (.cells #[Bv fr, .slice WA wn wc, .slice OA on oc] 39) := ⟨_, rfl⟩
  have hxW : Ext w W := by rw [hW]; exact (Ext.refl _).alloc _
  obtain ⟨q0, q1, q2, hsz⟩ := restBox w fr WA wn wc OA on oc hW
  have hpl := hp.1; have hwl := hr.waits.len; have hol := hr.outs.len; have hfr := hr.fresh
  have hwm := hr.wl
  have hom := hr.ol
  have HP := Lib.hid (hp.keep hxW.keeps); have HWA := Lib.hid (hr.waits.keep hxW.keeps)
  have CK := Lib.hid (rcheck_any' PA n pc p W (hp.keep hxW.keeps) hn)
  have HW := Lib.hid hW; clear hp hr hW
  unfold checkR at hR
  unfold maxLen at hn hwm hom
  by_cases h0 : checkP p ≠ 0
  · rw [if_pos h0] at hR
    have HR := Lib.hid hR; clear hR q0 q1 q2
    go_enter Try.func16, Try.ntmps16
    go_wp2_with fail
    rw [← HW.out]
    refine CK.out.mono ?_; rintro e w1 ⟨rfl, rfl⟩
    go_wp2
    go_ret
    exact ⟨ret_int HR.out, hxW⟩
  rw [if_neg h0] at hR
  have h00 : checkP p = 0 := by simpa using h0
  clear h0
  by_cases h1 : r.waits.length ≠ p.length ∨ r.outs.length ≠ 3
  · rw [if_pos h1] at hR
    have HR := Lib.hid hR; have H00 := Lib.hid h00; clear hR h00
    have hd : wn ≠ n ∨ (wn = n ∧ on ≠ 3) := by omega
    clear h1 hpl hwl hol
    rcases hd with hd | ⟨rfl, hd⟩
    all_goals
      go_enter Try.func16, Try.ntmps16
      go_wp2_with fail
      rw [← HW.out]
      refine CK.out.mono ?_; rintro e w1 ⟨rfl, rfl⟩; rw [H00.out]
      go_wp2
      go_ret
      exact ⟨ret_int HR.out, hxW⟩
  rw [if_neg h1] at hR
  have hwn : wn = n := by omega
  have hon : on = 3 := by omega
  subst hwn; subst hon
  have HR : Hid ((if (r.waits.zip p).any (badW fr) then (1 : Int) else 0) = R) := by unfold Hid; rw [← hR, ← hfr]; rfl
  have H00 := Lib.hid h00; clear hR h00 h1 hpl hwl hol hfr
  go_enter Try.func16, Try.ntmps16
  go_wp2_with fail
  rw [← HW.out]
  refine CK.out.mono ?_; rintro e w1 ⟨rfl, rfl⟩; rw [H00.out]
  go_wp2
  go_loop [6] (fun i => ∃ k : Nat, k ≤ wn ∧ i = .int .i64 k ∧ Hid (((r.waits.drop k).zip (p.drop k)).any (badW fr) = (r.waits.zip p).any (badW fr))) (fun i => wn - (intOf i).toNat)
  case atStart => exact ⟨0, Nat.zero_le _, rfl, rfl⟩
  case round =>
    obtain ⟨k, hk, rfl, hM⟩ := hrel
    by_cases hlt : k < wn
    · obtain ⟨wb, woff, x, rfl, d0, hx⟩ := HWA.out.at_ hlt
      obtain ⟨pb, poff, y, rfl, d1, hc1, -, hy⟩ := HP.out.next hlt
      have hst := badW_step (fr := fr) hx hy
      have hdb := lt_of_cell d0; have hdb1 := lt_of_cell d1
      have HST := Lib.hid hst
      clear hst hx hy hc1
      cases x
      · go_wp2
        go_round
        case rel => exact ⟨k + 1, by omega, by go_num, by unfold Hid; rw [← hM.out, HST.out]; simp [badW]⟩
        case measure => simp [intOf]; omega
      · cases fr
        · cases hwk : waitK y.kind
          · have HWK := Lib.hid hwk; clear hwk
            go_wp2_with (go_at_call 34; with_reducible refine (rwaits_any _ _).mono ?_; rintro e w' ⟨rfl, rfl⟩; rw [HWK.out])
            go_ret
            exact ⟨ret_int (by rw [← HR.out, ← hM.out, HST.out]; simp [badW, HWK.out]), hxW⟩
          · have HWK := Lib.hid hwk; clear hwk
            go_wp2_with (go_at_call 34; with_reducible refine (rwaits_any _ _).mono ?_; rintro e w' ⟨rfl, rfl⟩; rw [HWK.out])
            go_round
            case rel => exact ⟨k + 1, by omega, by go_num, by unfold Hid; rw [← hM.out, HST.out]; simp [badW, HWK.out]⟩
            case measure => simp [intOf]; omega
        · go_wp2
          go_ret
          exact ⟨ret_int (by rw [← HR.out, ← hM.out, HST.out]; simp [badW]), hxW⟩
    · have hkn : k = wn := by omega
      subst hkn
      go_wp2
      go_ret
      exact ⟨ret_int (by rw [← HR.out, ← hM.out]; rw [List.drop_eq_nil_of_le (by have := HP.out.1; omega : p.length ≤ k)]; simp), hxW⟩
end Go.Proofs.Ytejpnbomlnifkaa
