/- Package prog walked. -/
import Derived.Test.YtncakjhianmekaaChecked
import Derived.Test.YtncakjhianmekaaLib
import Derived.Test.YtncakjhianmekaaPgPlain
namespace Go.Proofs.Ytncakjhianmekaa
set_option linter.unusedVariables false
set_option linter.unusedSimpArgs false
open Go.RowKit

abbrev PK (x : PNode) : Value := I x.kind
abbrev PS (x : PNode) : Value := I x.sig
/-- A list of nodes, as a slice. -/
abbrev SlN := Sl2 PK PS

theorem two_any (k : Int) (w : World) : Calls Try.prog 26 #[I k] w fun e w' => e = .returned (.bool (two k)) ∧ w = w' := by
  go_enter Try.func26, Try.ntmps26
  go_wp2
  go_ret; exact ⟨ret_bool rfl, rfl⟩
theorem signs_any (k : Int) (w : World) : Calls Try.prog 22 #[I k] w fun e w' => e = .returned (I (signsM k)) ∧ w = w' := by
  generalize hM : signsM k = M
  unfold signsM at hM
  have HM := Lib.hid hM; clear hM
  go_enter Try.func22, Try.ntmps22
  go_wp2
  all_goals go_ret
  all_goals exact ⟨ret_int (by rw [← HM.out]; simp_all), rfl⟩

theorem one_any (A : Option Addr) (n c : Nat) (p : List PNode) (k : Int) (w : World) (h : SlN w A n p) (hn : n ≤ 65536) (hk : k ≤ 65536) :
    Calls Try.prog 23 #[.slice A n c, I k] w fun e w' => e = .returned (I (oneM p k)) ∧ w = w' := by
  suffices HH : ∀ (d : Nat) (k : Int), (k < 0 ∨ (n : Int) - k ≤ d) → k ≤ 65536 → Calls Try.prog 23 #[.slice A n c, I k] w fun e w' => e = .returned (I (oneM p k)) ∧ w = w' by
    exact HH n k (by omega) hk
  clear hk k
  have hbase : ∀ k : Int, (k < 0 ∨ (n : Int) ≤ k) → k ≤ 65536 → Calls Try.prog 23 #[.slice A n c, I k] w fun e w' => e = .returned (I (oneM p k)) ∧ w = w' := by
    intro k hk hk'
    by_cases h0 : k < 0
    · rw [oneM_neg p h0]
      go_enter Try.func23, Try.ntmps23
      go_wp2
      go_ret; exact ⟨rfl, rfl⟩
    · have h1 : (n : Int) ≤ k := by omega
      rw [oneM_big p (by rw [h.1]; exact h1)]
      go_enter Try.func23, Try.ntmps23
      go_wp2
      go_ret; exact ⟨rfl, rfl⟩
  intro d
  induction d with
  | zero => exact fun k hk hk' => hbase k (by omega) hk'
  | succ d ih =>
    intro k hk hk'
    by_cases hb : k < 0 ∨ (n : Int) ≤ k
    · exact hbase k hb hk'
    clear hbase
    obtain ⟨k, rfl⟩ := Int.eq_ofNat_of_zero_le (show 0 ≤ k by omega)
    have hkn : k < n := by omega
    obtain ⟨b, off, x, rfl, hc, hc', hd, hx⟩ := h.next hkn
    have IH := Lib.hid ih; clear ih
    cases ht : two x.kind with
    | false =>
      have HM := Lib.hid (oneM_leaf hx ht)
      have HT := Lib.hid ht
      have H := Lib.hid h
      clear h ht hx hd
      go_enter Try.func23, Try.ntmps23
      go_wp2_with fail
      refine (two_any _ _).mono ?_; rintro e w' ⟨rfl, rfl⟩; rw [HT.out]
      go_wp2
      go_ret; exact ⟨ret_int HM.out.symm, rfl⟩
    | true =>
      have HM := Lib.hid (oneM_two hx ht)
      have hr := oneM_range p ((k : Int) + 1)
      rw [h.1] at hr
      generalize hq : oneM p ((k : Int) + 1) = q at hr
      have HQ := Lib.hid hq
      have HT := Lib.hid ht
      have H := Lib.hid h
      clear h ht hx hd hq
      go_enter Try.func23, Try.ntmps23
      go_wp2_with fail
      refine (two_any _ _).mono ?_; rintro e w' ⟨rfl, rfl⟩; rw [HT.out]
      go_wp2_with fail
      refine (IH.out _ (by omega) (by omega)).mono ?_; rintro e w' ⟨rfl, rfl⟩; rw [HQ.out]
      go_wp2_with fail
      refine (IH.out _ (by omega) (by omega)).mono ?_; rintro e w' ⟨rfl, rfl⟩
      go_wp2
      go_ret; exact ⟨ret_int (by rw [HM.out, HQ.out]), rfl⟩

set_option maxHeartbeats 2000000 in
theorem progCheck_any (A : Option Addr) (n c : Nat) (p : List PNode) (w : World) (h : SlN w A n p) (hn : n ≤ maxLen) :
    Calls Try.prog 12 #[.slice A n c] w fun e w' => e = .returned (I (checkP p)) ∧ Ext w w' := by
  have hn' := hn; unfold maxLen at hn'
  generalize hR : checkP p = R
  unfold checkP at hR
  rw [h.1] at hR
  by_cases hbig : 14 < n
  · rw [if_pos hbig] at hR
    subst hR
    go_enter Try.func12, Try.ntmps12
    go_wp2
    go_ret; exact ⟨rfl, Ext.refl _⟩
  rw [if_neg hbig] at hR
  have H := Lib.hid h; clear h
  have HR := Lib.hid hR; clear hR
  go_enter Try.func12, Try.ntmps12
  go_wp2
  go_loopw [4, 12] (fun _ i wr => ∃ (k : Nat), k ≤ n ∧ i = .int .i64 k ∧ Ext w wr ∧ (p.drop k).any badKind = p.any badKind) (fun _ i _ => n - (intOf i).toNat)
  case atStart => exact ⟨0, Nat.zero_le _, rfl, Ext.refl _, rfl⟩
  case round =>
    obtain ⟨k, hk, rfl, hext, hM⟩ := hrel
    by_cases hlt : k < n
    · obtain ⟨b, off, x, rfl, hc0, hc0', hd, hx⟩ := H.out.next hlt
      have hc := hext.keeps _ _ hc0
      have hc' := hext.keeps _ _ hc0'
      rw [hd, List.any_cons] at hM
      have HM := Lib.hid hM; clear hM hd hx hc0 hc0'
      by_cases hb : badKind x = true
      · have hb2 : x.kind < 0 ∨ 8 < x.kind := by simpa [badKind] using hb
        have HB : Hid (R = 4) := by unfold Hid; rw [← HR.out, ← HM.out, hb]; rfl
        clear hb
        rcases hb2 with g | g
        · go_wp2
          go_ret; exact ⟨ret_int HB.out.symm, hext.alloc _⟩
        · have g' : ¬ x.kind < 0 := by omega
          go_wp2
          go_ret; exact ⟨ret_int HB.out.symm, hext.alloc _⟩
      · have hb2 : ¬ x.kind < 0 ∧ ¬ 8 < x.kind := by simpa [badKind] using hb
        have HB : Hid (badKind x = false) := by unfold Hid; simpa using hb
        obtain ⟨g1, g2⟩ := hb2
        clear hb
        go_wp2
        go_roundw
        case rel => exact ⟨k + 1, by omega, by go_num, hext.alloc _, by rw [← HM.out, HB.out]; simp⟩
        case measure => simp [intOf]; omega
    · rw [H.out.drop_end hlt] at hM
      have HK : Hid (p.any badKind = false) := by unfold Hid; rw [← hM]; rfl
      have HR2 : Hid ((if p.any badSig = true then 3 else if oneM p 0 ≠ (n : Int) then 1 else 0) = R) := by unfold Hid; rw [← HR.out, HK.out]; rfl
      clear hM HR
      go_wp2
      go_loopw [6, 27] (fun _ i wr => ∃ (k : Nat), k ≤ n ∧ i = .int .i64 k ∧ Ext w wr ∧ (p.drop k).any badSig = p.any badSig) (fun _ i _ => n - (intOf i).toNat)
      case atStart => exact ⟨0, Nat.zero_le _, rfl, hext, rfl⟩
      case round =>
        obtain ⟨k', hk', rfl, hext', hM⟩ := hrel
        by_cases hlt' : k' < n
        · obtain ⟨b, off, x, rfl, hc0, hc0', hd, hx⟩ := H.out.next hlt'
          have hc := hext'.keeps _ _ hc0
          have hc' := hext'.keeps _ _ hc0'
          rw [hd, List.any_cons] at hM
          have HM := Lib.hid hM; clear hM hd hx hc0 hc0'
          by_cases hb : badSig x = true
          · have hb2 : x.sig < 0 ∨ signsM x.kind ≤ x.sig := by simpa [badSig] using hb
            have HB : Hid (R = 3) := by unfold Hid; rw [← HR2.out, ← HM.out, hb]; rfl
            clear hb
            by_cases g : x.sig < 0
            · clear hb2
              go_wp2_with fail
              go_quiet (fail)
              go_wp2
              go_ret; exact ⟨ret_int HB.out.symm, (hext'.alloc _).drewN _⟩
            · have g' : signsM x.kind ≤ x.sig := by omega
              have gd : decide (x.sig < 0) = false := by simpa using g
              clear hb2
              go_wp2_with fail
              go_quiet ((go_at_call 22; refine Calls.quiet_of_same ((signs_any _ _).mono fun e w' h => ⟨h.1, h.2.symm⟩)))
              go_wp2
              go_ret; exact ⟨ret_int HB.out.symm, (hext'.alloc _).drewN _⟩
          · have hb2 : ¬ x.sig < 0 ∧ ¬ signsM x.kind ≤ x.sig := by simpa [badSig] using hb
            have HB : Hid (badSig x = false) := by unfold Hid; simpa using hb
            obtain ⟨g, g'⟩ := hb2
            have gd : decide (x.sig < 0) = false := by simpa using g
            clear hb
            go_wp2_with fail
            go_quiet ((go_at_call 22; refine Calls.quiet_of_same ((signs_any _ _).mono fun e w' h => ⟨h.1, h.2.symm⟩)))
            go_wp2
            go_roundw
            case rel => exact ⟨k' + 1, by omega, by go_num, (hext'.alloc _).drewN _, by rw [← HM.out, HB.out]; simp⟩
            case measure => simp [intOf]; omega
        · rw [H.out.drop_end hlt'] at hM
          have HK2 : Hid (p.any badSig = false) := by unfold Hid; rw [← hM]; rfl
          have HR3 : Hid ((if oneM p 0 ≠ (n : Int) then 1 else 0) = R) := by unfold Hid; rw [← HR2.out, HK2.out]; rfl
          clear hM HR2
          generalize hq : oneM p 0 = q
          have HQ := Lib.hid hq; clear hq
          have HS := Lib.hid (H.out.keep hext'.keeps)
          by_cases hqn : q = n
          · have g : (q != (n : Int)) = false := by simpa using hqn
            have HN := Lib.hid hqn; clear hqn
            go_wp2_with fail
            refine (one_any A n c p 0 _ HS.out (by omega) (by omega)).mono ?_; rintro e w' ⟨rfl, rfl⟩; rw [HQ.out]
            go_wp2
            go_ret; exact ⟨ret_int (by rw [← HR3.out, HQ.out, HN.out]; simp), hext'⟩
          · have g : (q != (n : Int)) = true := by simpa using hqn
            have HN := Lib.hid hqn; clear hqn
            go_wp2_with fail
            refine (one_any A n c p 0 _ HS.out (by omega) (by omega)).mono ?_; rintro e w' ⟨rfl, rfl⟩; rw [HQ.out]
            go_wp2
            go_ret; exact ⟨ret_int (by rw [← HR3.out, HQ.out, if_pos HN.out]), hext'⟩
end Go.Proofs.Ytncakjhianmekaa
