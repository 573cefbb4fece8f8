/- The reference's calls on programs, walked. -/
import Derived.Test.YtncakjhianmekaaPg3
import Derived.Test.YtncakjhianmekaaSame
namespace Go.Proofs.Ytncakjhianmekaa
set_option linter.unusedVariables false
set_option linter.unusedSimpArgs false
open Go.RowKit

theorem rparts_any (k : Int) (w : World) : Calls Try.prog 15 #[I k] w fun e w' => e = .returned (.bool (rtwo k)) ∧ w = w' := by
  go_enter Try.func15, Try.ntmps15
  go_wp2_with (go_at_call 14; with_reducible refine (within_any' _ _ _ _).mono ?_; rintro e w' ⟨rfl, rfl⟩)
  go_ret; exact ⟨rfl, rfl⟩
theorem end_any (A : Option Addr) (n c : Nat) (p : List PNode) (k : Nat) (w : World) (h : SlN w A n p) (hn : n ≤ 60000) (hK : p.any badKind = false) (hk : k < n) (ho : oneM p k ≠ -1) :
    Calls Try.prog 17 #[.slice A n c, I k] w fun e w' => e = .returned (I (oneM p k)) ∧ w = w' := by
  suffices HH : ∀ (d : Nat) (k : Nat), n - k ≤ d → k < n → oneM p k ≠ -1 → Calls Try.prog 17 #[.slice A n c, I k] w fun e w' => e = .returned (I (oneM p k)) ∧ w = w' by
    exact HH n k (by omega) hk ho
  clear hk ho k
  have hgood : ∀ x ∈ p, x.kind ≤ 8 := fun x hm => by
    have := List.any_eq_false.1 hK x hm; simp [badKind] at this; omega
  intro d
  induction d with
  | zero => intro k hd hk; omega
  | succ d ih =>
    intro k hd hk ho
    obtain ⟨b, off, x, rfl, hc, hc', hd', hx⟩ := h.next hk
    have hx8 := hgood x (List.mem_of_getElem? hx)
    have e2 := rtwo_eq hx8
    have IH := Lib.hid ih
    cases ht : two x.kind with
    | false =>
      have HM := Lib.hid (oneM_leaf hx ht)
      have HT : Hid (rtwo x.kind = false) := by unfold Hid; rw [e2, ht]
      have H := Lib.hid h
      clear h ht hx hd' e2 ih hgood hK ho
      go_enter Try.func17, Try.ntmps17
      go_wp2_with fail
      refine (rparts_any _ _).mono ?_; rintro e w' ⟨rfl, rfl⟩; rw [HT.out]
      go_wp2
      go_ret; exact ⟨ret_int HM.out.symm, rfl⟩
    | true =>
      have hM := oneM_two hx ht
      have HT : Hid (rtwo x.kind = true) := by unfold Hid; rw [e2, ht]
      have hr := oneM_range p ((k : Int) + 1)
      rw [h.1] at hr
      have hr0 : oneM p ((k : Int) + 1) ≠ -1 := by
        intro e; rw [hM, e] at ho; exact ho (oneM_neg p (by decide))
      have ho2 : oneM p (oneM p ((k : Int) + 1)) ≠ -1 := by rw [← hM]; exact ho
      obtain ⟨q, hq⟩ : ∃ q : Nat, oneM p ((k : Int) + 1) = q := ⟨(oneM p ((k : Int) + 1)).toNat, by omega⟩
      rw [hq] at ho2 hr hr0 hM
      have hqn : q < n := by
        rcases Nat.lt_or_ge q n with h1 | h1
        · exact h1
        · exact absurd (oneM_big p (by rw [h.1]; omega)) ho2
      have hkq : k + 1 < q := by omega
      have HQ := Lib.hid hq
      have HM := Lib.hid hM
      have c1 := IH.out (k + 1) (by omega) (by omega) (by rw [show ((k + 1 : Nat) : Int) = (k : Int) + 1 from by omega, hq]; omega)
      rw [show ((k + 1 : Nat) : Int) = (k : Int) + 1 from by omega, hq] at c1
      have C1 := Lib.hid c1
      have C2 := Lib.hid (IH.out q (by omega) hqn ho2)
      have H := Lib.hid h
      clear h ht hx hd' e2 ih hgood hK ho hq hr hr0 ho2 hM c1 IH
      go_enter Try.func17, Try.ntmps17
      go_wp2_with fail
      refine (rparts_any _ _).mono ?_; rintro e w' ⟨rfl, rfl⟩; rw [HT.out]
      go_wp2_with fail
      refine C1.out.mono ?_; rintro e w' ⟨rfl, rfl⟩
      go_wp2_with fail
      refine C2.out.mono ?_; rintro e w' ⟨rfl, rfl⟩
      go_wp2
      go_ret; exact ⟨ret_int HM.out.symm, rfl⟩


set_option maxHeartbeats 4000000 in
theorem rcheck_any (A : Option Addr) (n c : Nat) (p : List PNode) (w : World) (h : SlN w A n p) (hn : n ≤ maxLen) :
    Calls Try.prog 6 #[.slice A n c] w fun e w' => e = .returned (I (rcheckP p)) ∧ w = w' := by
  have hn' := hn; unfold maxLen at hn'
  generalize hR : rcheckP p = R
  unfold rcheckP at hR
  rw [h.1] at hR
  by_cases hbig : 14 < n
  · rw [if_pos hbig] at hR
    subst hR
    go_enter Try.func6, Try.ntmps6
    go_wp2
    go_ret; exact ⟨rfl, rfl⟩
  rw [if_neg hbig] at hR
  have H := Lib.hid h; clear h
  have HR := Lib.hid hR; clear hR
  go_enter Try.func6, Try.ntmps6
  go_wp2
  go_loop [3] (fun i => ∃ (k : Nat), k ≤ n ∧ i = .int .i64 k ∧ (p.drop k).all inK = p.all inK) (fun i => n - (intOf i).toNat)
  case atStart => exact ⟨0, Nat.zero_le _, rfl, rfl⟩
  case round =>
    obtain ⟨k, hk, rfl, hM⟩ := hrel
    by_cases hlt : k < n
    · obtain ⟨b, off, x, rfl, hc, hc', hd, hx⟩ := H.out.next hlt
      rw [hd, List.all_cons] at hM
      have HM := Lib.hid hM; clear hM hd hx
      cases hb : inK x
      · have HB := Lib.hid hb; clear hb
        have HW : Hid ((decide (0 ≤ x.kind) && decide (x.kind ≤ 8)) = false) := HB
        go_wp2_with (go_at_call 14; with_reducible refine (within_any' _ _ _ _).mono ?_; rintro e w' ⟨rfl, rfl⟩; rw [HW.out])
        go_ret; exact ⟨ret_int (by rw [← HR.out, ← HM.out, HB.out]; rfl), rfl⟩
      · have HB := Lib.hid hb; clear hb
        have HW : Hid ((decide (0 ≤ x.kind) && decide (x.kind ≤ 8)) = true) := HB
        go_wp2_with (go_at_call 14; with_reducible refine (within_any' _ _ _ _).mono ?_; rintro e w' ⟨rfl, rfl⟩; rw [HW.out])
        go_round
        case rel => exact ⟨k + 1, by omega, by go_num, by rw [← HM.out, HB.out]; simp⟩
        case measure => simp [intOf]; omega
    · rw [H.out.drop_end hlt] at hM
      have HK : Hid (p.all inK = true) := by unfold Hid; rw [← hM]; rfl
      have HR2 : Hid ((if p.all inS = false then 3 else openM p 1) = R) := by unfold Hid; rw [← HR.out, HK.out]; rfl
      clear hM HR
      go_wp2
      go_loop [4, 5] (fun i _ => ∃ (k : Nat), k ≤ n ∧ i = .int .i64 k ∧ (p.drop k).all inS = p.all inS) (fun i _ => n - (intOf i).toNat)
      case atStart => exact ⟨0, Nat.zero_le _, rfl, rfl⟩
      case round =>
        obtain ⟨k', hk', rfl, hM⟩ := hrel
        by_cases hlt' : k' < n
        · obtain ⟨b, off, x, rfl, hc, hc', hd, hx⟩ := H.out.next hlt'
          rw [hd, List.all_cons] at hM
          have HM := Lib.hid hM; clear hM hd hx
          obtain ⟨kd, sg⟩ := x
          have h5 : kd = 4 ∨ kd = 7 ∨ kd = 3 ∨ kd = 8 ∨ (kd ≠ 4 ∧ kd ≠ 7 ∧ kd ≠ 3 ∧ kd ≠ 8) := by omega
          cases hb : inS ⟨kd, sg⟩
          all_goals
            have HB := Lib.hid hb
            have hw : (decide (0 ≤ sg) && decide (sg ≤ mostM kd)) = _ := hb
            unfold mostM at hw
            clear hb
            rcases h5 with rfl | rfl | rfl | rfl | ⟨n4, n7, n3, n8⟩
            all_goals
              simp only [reduceIte, Int.reduceEq, true_or, or_true, or_self, *] at hw
              have HW := Lib.hid hw; clear hw
              go_wp2_with (go_at_call 14; with_reducible refine (within_any' _ _ _ _).mono ?_; rintro e w' ⟨rfl, rfl⟩; rw [HW.out])
              first
                | (go_ret; exact ⟨ret_int (by rw [← HR2.out, ← HM.out, HB.out]; rfl), rfl⟩)
                | (go_round
                   case rel => exact ⟨k' + 1, by omega, by go_num, by rw [← HM.out, HB.out]; simp⟩
                   case measure => simp [intOf]; omega)
        · rw [H.out.drop_end hlt'] at hM
          have HK2 : Hid (p.all inS = true) := by unfold Hid; rw [← hM]; rfl
          have HR3 : Hid (openM p 1 = R) := by unfold Hid; rw [← HR2.out, HK2.out]; rfl
          clear hM HR2
          go_wp2
          go_loop [6, 7] (fun o i => ∃ (k : Nat) (q : Int), k ≤ n ∧ i = .int .i64 k ∧ o = .int .i64 q ∧ 0 ≤ q ∧ q ≤ k + 1 ∧ openM (p.drop k) q = openM p 1) (fun _ i => n - (intOf i).toNat)
          case atStart => exact ⟨0, 1, Nat.zero_le _, rfl, rfl, by omega, by omega, rfl⟩
          case round =>
            obtain ⟨j, q, hj, rfl, rfl, hq0, hq1, hM⟩ := hrel
            by_cases hltj : j < n
            · obtain ⟨b, off, x, rfl, hc, hc', hd, hx⟩ := H.out.next hltj
              rw [hd, openM] at hM
              have HM := Lib.hid hM; clear hM hd hx
              by_cases hz : q = 0
              · subst hz
                go_wp2
                go_ret; exact ⟨ret_int (by rw [← HR3.out, ← HM.out]; rfl), rfl⟩
              · have hz' : (q == 0) = false := by simpa using hz
                have HZ := Lib.hid hz
                have hq2 : 1 ≤ q := by omega
                cases hb : rtwo x.kind
                all_goals
                  have HB := Lib.hid hb; clear hb
                  go_wp2_with (go_at_call 15; with_reducible refine (rparts_any _ _).mono ?_; rintro e w' ⟨rfl, rfl⟩; rw [HB.out])
                  go_round
                  case rel => exact ⟨j + 1, _, by omega, by go_num, rfl, by omega, by omega, by rw [← HM.out, if_neg HZ.out, HB.out]; simp⟩
                  case measure => simp [intOf]; omega
            · rw [H.out.drop_end hltj, openM] at hM
              have HM := Lib.hid hM; clear hM
              by_cases hz : q = 0
              · subst hz
                go_wp2
                go_ret; exact ⟨ret_int (by rw [← HR3.out, ← HM.out]; rfl), rfl⟩
              · have hz' : (q != 0) = true := by simpa using hz
                have HZ := Lib.hid hz; clear hz
                go_wp2
                go_ret; exact ⟨ret_int (by rw [← HR3.out, ← HM.out, if_neg HZ.out]), rfl⟩
end Go.Proofs.Ytncakjhianmekaa
