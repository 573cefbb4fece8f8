/- SameProgs; text.Show. -/
import Derived.Test.YtncakjhianmekaaTextShow2
import Derived.Test.YtncakjhianmekaaSame
namespace Go.Proofs.Ytncakjhianmekaa
set_option linter.unusedVariables false
set_option linter.unusedSimpArgs false
open Go.RowKit

deriving instance DecidableEq for PNode
set_option maxHeartbeats 1000000 in
theorem sameProgs_eq (A B : Option Addr) (n c d : Nat) (xs ys : List PNode) (w : World) (h : SlN w A n xs) (h' : SlN w B n ys) (hn : n ≤ maxLen) :
    Calls Try.prog 11 #[.slice A n c, .slice B n d] w fun e w' => e = .returned (.bool (sameM xs ys)) ∧ ∃ m, w' = w.drewN m := by
  unfold maxLen at hn
  have H := Lib.hid h; clear h
  have H' := Lib.hid h'; clear h'
  go_enter Try.func11, Try.ntmps11
  go_wp2
  go_loopw [5] (fun i wr => ∃ (k m : Nat), k ≤ n ∧ i = .int .i64 k ∧ wr = w.drewN m ∧ sameM (xs.drop k) (ys.drop k) = sameM xs ys) (fun i _ => n - (intOf i).toNat)
  case atStart => exact ⟨0, 0, Nat.zero_le _, rfl, rfl, rfl⟩
  case round =>
    obtain ⟨k, m, hk, rfl, rfl, hM⟩ := hrel
    by_cases hlt : k < n
    · obtain ⟨b, off, ⟨xk, xs'⟩, rfl, hc0, hc1, hd, -⟩ := H.out.next hlt
      obtain ⟨b', off', ⟨yk, ys'⟩, rfl, hc0', hc1', hd', -⟩ := H'.out.next hlt
      rw [hd, hd', sameM] at hM
      have HM := Lib.hid hM; clear hM hd hd'
      have e0 : w.cell? ⟨b, off + k * 2, none⟩ = some (I xk) := hc0
      have e1 : w.cell? ⟨b, off + k * 2 + 1, none⟩ = some (I xs') := hc1
      have e2 : w.cell? ⟨b', off' + k * 2, none⟩ = some (I yk) := hc0'
      have e3 : w.cell? ⟨b', off' + k * 2 + 1, none⟩ = some (I ys') := hc1'
      clear hc0 hc1 hc0' hc1'
      by_cases hxy : xk = yk ∧ xs' = ys'
      · obtain ⟨rfl, rfl⟩ := hxy
        go_wp2_with fail
        go_quiet (fail)
        go_wp2
        go_roundw
        case rel => exact ⟨k + 1, _, by omega, by go_num, rfl, by rw [← HM.out]; simp⟩
        case measure => simp [intOf]; omega
      · by_cases hk1 : xk = yk
        · subst hk1
          have hne : xs' ≠ ys' := fun e => hxy ⟨rfl, e⟩
          have g3 : (xs' == ys') = false := by simpa using hne
          have H3 := Lib.hid hne; clear hxy hne
          go_wp2_with fail
          go_quiet (fail)
          go_wp2
          go_ret; exact ⟨ret_bool (by rw [← HM.out]; simp [H3.out]), _, World.drewN_drewN _ _ _⟩
        · have g3 : (xk == yk) = false := by simpa using hk1
          have H3 := Lib.hid hk1; clear hxy hk1
          go_wp2_with fail
          go_quiet (fail)
          go_wp2
          go_ret; exact ⟨ret_bool (by rw [← HM.out]; simp [H3.out]), _, World.drewN_drewN _ _ _⟩
    · have hE : sameM ([] : List PNode) (ys.drop k) = true := by cases ys.drop k <;> rfl
      rw [H.out.drop_end hlt, hE] at hM
      have HM := Lib.hid hM; clear hM hE
      go_wp2
      go_ret; exact ⟨ret_bool HM.out, _, rfl⟩
theorem sameProgs_any (A B : Option Addr) (n m c d : Nat) (xs ys : List PNode) (w : World) (h : SlN w A n xs) (h' : SlN w B m ys) (hn : n ≤ maxLen) (hm : m ≤ maxLen) :
    Calls Try.prog 11 #[.slice A n c, .slice B m d] w fun e w' => e = .returned (.bool (decide (xs = ys))) ∧ ∃ m, w' = w.drewN m := by
  by_cases hnm : n = m
  · subst hnm
    rw [← sameM_eq xs ys (by rw [h.1, h'.1])]
    exact sameProgs_eq A B n c d xs ys w h h' hn
  · have hf : decide (xs = ys) = false := by
      simp; rintro rfl; exact hnm (h.1.symm.trans h'.1)
    rw [hf]
    have g : ((n : Int) != (m : Int)) = true := by simp; omega
    have H := Lib.hid h; have H' := Lib.hid h'; have HN := Lib.hid hnm
    clear h h' hnm hf
    go_enter Try.func11, Try.ntmps11
    go_wp2
    go_ret; exact ⟨rfl, 0, rfl⟩

theorem show_bad (A : Option Addr) (n c : Nat) (p : List PNode) (w : World) (h : SlN w A n p) (hn : n ≤ maxLen) (hb : checkP p ≠ 0) :
    Calls Try.prog 5 #[.slice A n c] w fun e w' => e = .returned (Pr (S []) (I (checkP p))) ∧ Ext w w' := by
  generalize hq : checkP p = q at *
  have g : (q != 0) = true := by simpa using hb
  have HQ := Lib.hid hq; have H := Lib.hid h; clear h hq hb
  go_enter Try.func5, Try.ntmps5
  go_wp2_with fail
  refine (progCheck_any A n c p w H.out hn).mono ?_; rintro e w1 ⟨rfl, x1⟩; rw [HQ.out]
  go_wp2
  go_ret2
  exact ⟨rfl, x1⟩
theorem show_ok (A : Option Addr) (n c : Nat) (t : Tr) (w : World) (h : SlN w A n t.flat) (ok : t.ok) (hs : t.size ≤ 14) (hg : ∀ x ∈ t.flat, goodN x) :
    Calls Try.prog 5 #[.slice A n c] w fun e w' => e = .returned (Pr (S (textT t)) (I 0)) ∧ Ext w w' := by
  have hn : n ≤ 14 := by have := h.1; rw [flat_size] at this; omega
  have HQ := Lib.hid (tree_check ok hs hg); have H := Lib.hid h; clear h
  have HN := Lib.hid (fun Q (hQ : SlN Q A n t.flat) => node_any A n c t.flat (by omega) t 0 Q hQ (TreeAt.root t) ok hg)
  go_enter Try.func5, Try.ntmps5
  go_wp2_with fail
  refine (progCheck_any A n c t.flat w H.out (by unfold maxLen; omega)).mono ?_; rintro e w1 ⟨rfl, x1⟩; rw [HQ.out]
  go_wp2_with fail
  refine (HN.out w1 (H.out.keep x1.keeps)).mono ?_; rintro e w2 ⟨rfl, x2⟩
  go_wp2
  go_ret2
  exact ⟨rfl, x1.trans x2⟩
end Go.Proofs.Ytncakjhianmekaa
