/- net.Begin of right nets; netBegun. -/
import Derived.Test.YtlafiddfplhafaaFa11
import Derived.Test.YtlafiddfplhafaaFa12
import Derived.Test.YtlafiddfplhafaaFa07
namespace Go.Proofs.Ytlafiddfplhafaa
set_option linter.unusedVariables false
set_option linter.unusedSimpArgs false
set_option linter.unusedVariables false
set_option linter.unusedSimpArgs false
open Go.RowKit
end Go.Proofs.Ytlafiddfplhafaa
/- Fresh, bits, power of the reference; both Checks of a rest. -/
namespace Go.Proofs.Ytlafiddfplhafaa
set_option linter.unusedVariables false
set_option linter.unusedSimpArgs false
open Go.RowKit
set_option maxHeartbeats 2000000 in
theorem rfresh_any (A : Option Addr) (n c : Nat) (w : World) (hn : n ≤ 14) :
    Calls Try.prog 29 #[.slice A n c] w fun e w' => ∃ g1 g2, e = .returned (.agg #[Bv true, .slice (some ⟨g1, 0, none⟩) n n, .slice (some ⟨g2, 0, none⟩) 3 3]) ∧ w.heap.size ≤ g1 ∧ w.heap.size ≤ g2 ∧ g1 ≠ g2 ∧
      w'.ownsRow w.heap.size 4 1 (.slice (some ⟨g1, 0, none⟩) n n) n ((List.replicate n false).map Bv) ∧ w'.ownsRow w.heap.size 4 1 (.slice (some ⟨g2, 0, none⟩) 3 3) 3 (([false, false, false] : List Bool).map Bv) ∧ Ext w w' := by
  have hmk := fun W => run_make1 (P := Try.prog) 31 4 tab_bool Try.underlying31 rfl n (by omega) (by omega) W
  have hm3 : ∀ W, (Instr.makeSlice 31 (.int .i64 3) (.int .i64 3)).run Try.prog W = .ok (.slice (some ⟨W.heap.size, 0, none⟩) 3 3) (W.alloc (.cells (zeros (.bool false) 3) 4)) := fun W => run_make1 (P := Try.prog) 31 4 tab_bool Try.underlying31 rfl 3 (by omega) (by omega) W
  go_enter Try.func29, Try.ntmps29
  go_wp2_with fail
  go_region
  · go_wp2
    refine bodyPost_ret (v := .agg #[Bv true, .slice (some ⟨w.heap.size + 1, 0, none⟩) n n, .slice (some ⟨w.heap.size + 1 + 1, 0, none⟩) 3 3]) (by simp [results, Try.results29, go_sem]) rfl ⟨w.heap.size + 1, w.heap.size + 1 + 1, rfl, by omega, by omega, by omega, ?_, ?_, (((Ext.refl w).alloc _).alloc _).alloc _ |>.drew⟩
    · have := own_ext (own_made (w.alloc (.cells #[.bool true, .slice (some ⟨w.heap.size + 1, 0, none⟩) n n, .slice (some ⟨w.heap.size + 1 + 1, 0, none⟩) 3 3] 59)) 4 (.bool false) n w.heap.size (by simp) (by unfold maxLen; omega)) (((Ext.refl _).alloc (.cells (zeros (.bool false) 3) 4)).drew)
      simpa using this
    · have := own_ext (own_made ((w.alloc (.cells #[.bool true, .slice (some ⟨w.heap.size + 1, 0, none⟩) n n, .slice (some ⟨w.heap.size + 1 + 1, 0, none⟩) 3 3] 59)).alloc (.cells (zeros (.bool false) n) 4)) 4 (.bool false) 3 w.heap.size (by simp; omega) (by unfold maxLen; omega)) ((Ext.refl _).drew)
      simpa using this
  · go_wp2
    refine bodyPost_ret (v := .agg #[Bv true, .slice (some ⟨w.heap.size + 1 + 1, 0, none⟩) n n, .slice (some ⟨w.heap.size + 1, 0, none⟩) 3 3]) (by simp [results, Try.results29, go_sem]) rfl ⟨w.heap.size + 1 + 1, w.heap.size + 1, rfl, by omega, by omega, by omega, ?_, ?_, (((Ext.refl w).alloc _).alloc _).alloc _ |>.drew⟩
    · have := own_ext (own_made ((w.alloc (.cells #[.bool true, .slice (some ⟨w.heap.size + 1 + 1, 0, none⟩) n n, .slice (some ⟨w.heap.size + 1, 0, none⟩) 3 3] 59)).alloc (.cells (zeros (.bool false) 3) 4)) 4 (.bool false) n w.heap.size (by simp; omega) (by unfold maxLen; omega)) ((Ext.refl _).drew)
      simpa using this
    · have := own_ext (own_made (w.alloc (.cells #[.bool true, .slice (some ⟨w.heap.size + 1 + 1, 0, none⟩) n n, .slice (some ⟨w.heap.size + 1, 0, none⟩) 3 3] 59)) 4 (.bool false) 3 w.heap.size (by simp) (by unfold maxLen; omega)) (((Ext.refl _).alloc (.cells (zeros (.bool false) n) 4)).drew)
      simpa using this
end Go.Proofs.Ytlafiddfplhafaa
/- Both Checks of a rest; Begin. -/
namespace Go.Proofs.Ytlafiddfplhafaa
set_option linter.unusedVariables false
set_option linter.unusedSimpArgs false
open Go.RowKit
/-- A node whose wait a rest must not hold. -/
def badWt (fr : Bool) (y : Bool × PNode) : Bool := y.1 && (fr || !waitK y.2.kind)
theorem restBox (w : World) (fr : Bool) (WA : Option Addr) (wn wc : Nat) (OA : Option Addr) (on oc : Nat) {W : World} (h : W = w.alloc (.cells #[Bv fr, .slice WA wn wc, .slice OA on oc] 59)) :
    W.cell? ⟨w.heap.size, 0, none⟩ = some (Bv fr) ∧ W.cell? ⟨w.heap.size, 1, none⟩ = some (.slice WA wn wc) ∧ W.cell? ⟨w.heap.size, 2, none⟩ = some (.slice OA on oc) ∧ w.heap.size < W.heap.size := by
  subst h
  refine ⟨?_, ?_, ?_, by simp⟩
  all_goals (rw [World.cell?_alloc_new]; rfl)
theorem badW_step {fr x : Bool} {V : List Bool} {p : List PNode} {k : Nat} {y : PNode} (hV : V[k]? = some x) (hp : p[k]? = some y) : ((V.drop k).zip (p.drop k)).any (badWt fr) = (badWt fr (x, y) || ((V.drop (k + 1)).zip (p.drop (k + 1))).any (badWt fr)) := by
  have h1 := (List.getElem?_eq_some_iff.1 hV).1
  have h2 := (List.getElem?_eq_some_iff.1 hp).1
  rw [List.drop_eq_getElem_cons h1, List.drop_eq_getElem_cons h2, List.zip_cons_cons, List.any_cons]
  rw [List.getElem?_eq_getElem h1] at hV; rw [List.getElem?_eq_getElem h2] at hp
  injection hV with e1; injection hp with e2
  rw [e1, e2]
set_option maxHeartbeats 4000000 in
theorem rCheckRest_any (PA : Option Addr) (n pc : Nat) (p : List PNode) (fr : Bool) (WA : Option Addr) (wn wc : Nat) (OA : Option Addr) (on oc : Nat) (r : RestM) (w : World)
    (hp : SlN w PA n p) (hr : RestC w fr WA wn wc OA on oc r) (hn : n ≤ maxLen) :
    Calls Try.prog 70 #[.slice PA n pc, restV fr WA wn wc OA on oc] w fun e w' => e = .returned (I (checkR p r)) ∧ Ext w w' := by
  generalize hR : checkR p r = R
  obtain ⟨W, hW⟩ : ∃ W, W = w.alloc (.cells #[Bv fr, .slice WA wn wc, .slice OA on oc] 59) := ⟨_, rfl⟩
  have hxW : Ext w W := by rw [hW]; exact (Ext.refl _).alloc _
  obtain ⟨q0, q1, q2, hsz⟩ := restBox w fr WA wn wc OA on oc hW
  have hpl := hp.1; have hwl := hr.waits.len; have hol := hr.outs.len; have hfr := hr.fresh
  have hwm := hr.wl
  have hom := hr.ol
  have HP := Lib.hid (hp.keep hxW.keeps); have HWA := Lib.hid (hr.waits.keep hxW.keeps)
  have CK := Lib.hid (rcheck_any' PA n pc p W (hp.keep hxW.keeps) hn)
  have HW := Lib.hid hW; clear hp hr hW
  unfold checkR at hR
  unfold maxLen at hn hwm hom
  by_cases h0 : checkP p ≠ 0
  · rw [if_pos h0] at hR
    have HR := Lib.hid hR; clear hR q0 q1 q2
    go_enter Try.func70, Try.ntmps70
    go_wp2_with fail
    rw [← HW.out]
    refine CK.out.mono ?_; rintro e w1 ⟨rfl, rfl⟩
    go_wp2
    go_ret
    exact ⟨ret_int HR.out, hxW⟩
  rw [if_neg h0] at hR
  have h00 : checkP p = 0 := by simpa using h0
  clear h0
  by_cases h1 : r.waits.length ≠ p.length ∨ r.outs.length ≠ 3
  · rw [if_pos h1] at hR
    have HR := Lib.hid hR; have H00 := Lib.hid h00; clear hR h00
    have hd : wn ≠ n ∨ (wn = n ∧ on ≠ 3) := by omega
    clear h1 hpl hwl hol
    rcases hd with hd | ⟨rfl, hd⟩
    all_goals
      go_enter Try.func70, Try.ntmps70
      go_wp2_with fail
      rw [← HW.out]
      refine CK.out.mono ?_; rintro e w1 ⟨rfl, rfl⟩; rw [H00.out]
      go_wp2
      go_ret
      exact ⟨ret_int HR.out, hxW⟩
  rw [if_neg h1] at hR
  have hwn : wn = n := by omega
  have hon : on = 3 := by omega
  subst hwn; subst hon
  have HR : Hid ((if (r.waits.zip p).any (badWt fr) then (1 : Int) else 0) = R) := by unfold Hid; rw [← hR, ← hfr]; rfl
  have H00 := Lib.hid h00; clear hR h00 h1 hpl hwl hol hfr
  go_enter Try.func70, Try.ntmps70
  go_wp2_with fail
  rw [← HW.out]
  refine CK.out.mono ?_; rintro e w1 ⟨rfl, rfl⟩; rw [H00.out]
  go_wp2
  go_loop [6] (fun i => ∃ k : Nat, k ≤ wn ∧ i = .int .i64 k ∧ Hid (((r.waits.drop k).zip (p.drop k)).any (badWt fr) = (r.waits.zip p).any (badWt fr))) (fun i => wn - (intOf i).toNat)
  case atStart => exact ⟨0, Nat.zero_le _, rfl, rfl⟩
  case round =>
    obtain ⟨k, hk, rfl, hM⟩ := hrel
    by_cases hlt : k < wn
    · obtain ⟨wb, woff, x, rfl, d0, hx⟩ := HWA.out.at_ hlt
      obtain ⟨pb, poff, y, rfl, d1, hc1, -, hy⟩ := HP.out.next hlt
      have hst := badW_step (fr := fr) hx hy
      have hdb := lt_of_cell d0; have hdb1 := lt_of_cell d1
      have HST := Lib.hid hst
      clear hst hx hy hc1
      cases x
      · go_wp2
        go_round
        case rel => exact ⟨k + 1, by omega, by go_num, by unfold Hid; rw [← hM.out, HST.out]; simp [badWt]⟩
        case measure => simp [intOf]; omega
      · cases fr
        · cases hwk : waitK y.kind
          · have HWK := Lib.hid hwk; clear hwk
            go_wp2_with (go_at_call 34; with_reducible refine (rwaits_any _ _).mono ?_; rintro e w' ⟨rfl, rfl⟩; rw [HWK.out])
            go_ret
            exact ⟨ret_int (by rw [← HR.out, ← hM.out, HST.out]; simp [badWt, HWK.out]), hxW⟩
          · have HWK := Lib.hid hwk; clear hwk
            go_wp2_with (go_at_call 34; with_reducible refine (rwaits_any _ _).mono ?_; rintro e w' ⟨rfl, rfl⟩; rw [HWK.out])
            go_round
            case rel => exact ⟨k + 1, by omega, by go_num, by unfold Hid; rw [← hM.out, HST.out]; simp [badWt, HWK.out]⟩
            case measure => simp [intOf]; omega
        · go_wp2
          go_ret
          exact ⟨ret_int (by rw [← HR.out, ← hM.out, HST.out]; simp [badWt]), hxW⟩
    · have hkn : k = wn := by omega
      subst hkn
      go_wp2
      go_ret
      exact ⟨ret_int (by rw [← HR.out, ← hM.out]; rw [List.drop_eq_nil_of_le (by have := HP.out.1; omega : p.length ≤ k)]; simp), hxW⟩
end Go.Proofs.Ytlafiddfplhafaa
