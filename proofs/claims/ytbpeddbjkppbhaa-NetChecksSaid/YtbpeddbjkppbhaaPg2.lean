/- prog.Of, prog.Parts. -/
import Derived.Test.YtbpeddbjkppbhaaPg
namespace Go.Proofs.Ytbpeddbjkppbhaa
set_option linter.unusedVariables false
set_option linter.unusedSimpArgs false
open Go.RowKit

theorem progOf_any (A : Option Addr) (n c : Nat) (p : List PNode) (k : Nat) (w : World) (h : SlN w A n p) (hn : n ≤ 60000) (hk : k < n) :
    Calls Try.prog 113 #[.slice A n c, I k] w fun e w' => e = .returned (Pr3 (I (ofP p k).1) (I (ofP p k).2.1) (I (ofP p k).2.2)) ∧ w = w' := by
  obtain ⟨b, off, x, rfl, hc, hc', hd, hx⟩ := h.next hk
  generalize hR : ofP p k = R
  unfold ofP at hR
  rw [hx] at hR
  have H := Lib.hid h
  have HR := Lib.hid hR
  clear h hx hd hR
  cases ht : two x.kind
  all_goals
    have HT := Lib.hid ht; clear ht
    go_enter Try.func113, Try.ntmps113
    go_wp2_with fail
    refine (two_any _ _).mono ?_; rintro e w' ⟨rfl, rfl⟩; rw [HT.out]
    go_wp2_with (go_at_call 121; with_reducible refine (one_any _ n c p _ w H.out (by omega) (by omega)).mono ?_; rintro e w' ⟨rfl, rfl⟩)
    go_ret3
    exact ⟨by rw [← HR.out]; simp only [HT.out]; rfl, rfl⟩

theorem parts_any (A : Option Addr) (n c : Nat) (p : List PNode) (k : Int) (w : World) (h : SlN w A n p) (hn : n ≤ maxLen) :
    Calls Try.prog 39 #[.slice A n c, I k] w fun e w' => e = .returned (Pr4 (I (partsP p k).1.1) (I (partsP p k).1.2.1) (I (partsP p k).1.2.2) (I (partsP p k).2)) ∧ Ext w w' := by
  generalize hR : partsP p k = R
  unfold partsP at hR
  rw [h.1] at hR
  have hle : checkP p = 0 → n ≤ 14 := fun e => by have := (checkP_ok e).1; rw [h.1] at this; exact this
  have H := Lib.hid h; clear h
  generalize hq : checkP p = q at hR hle
  have HQ := Lib.hid hq; clear hq
  by_cases h0 : q = 0
  · subst h0
    have hn14 := hle rfl
    clear hle
    rw [if_neg (by decide)] at hR
    by_cases hb : k < 0 ∨ (n : Int) ≤ k
    · rw [if_pos hb] at hR
      have HR := Lib.hid hR; clear hR
      by_cases h1 : k < 0
      · clear hb
        go_enter Try.func39, Try.ntmps39
        go_wp2_with fail
        refine (progCheck_any _ n c p w H.out hn).mono ?_; rintro e w1 ⟨rfl, x1⟩; rw [HQ.out]
        go_wp2
        refine bodyPost_ret (results_tmp4 rfl _ _ _) rfl ?_
        exact ⟨by rw [← HR.out]; rfl, x1⟩
      · have h2 : (n : Int) ≤ k := by omega
        clear hb
        go_enter Try.func39, Try.ntmps39
        go_wp2_with fail
        refine (progCheck_any _ n c p w H.out hn).mono ?_; rintro e w1 ⟨rfl, x1⟩; rw [HQ.out]
        go_wp2
        refine bodyPost_ret (results_tmp4 rfl _ _ _) rfl ?_
        exact ⟨by rw [← HR.out]; rfl, x1⟩
    · rw [if_neg hb] at hR
      have HR := Lib.hid hR; clear hR
      obtain ⟨k, rfl⟩ := Int.eq_ofNat_of_zero_le (show 0 ≤ k by omega)
      have hkn : k < n := by omega
      clear hb
      go_enter Try.func39, Try.ntmps39
      go_wp2_with fail
      refine (progCheck_any _ n c p w H.out hn).mono ?_; rintro e w1 ⟨rfl, x1⟩; rw [HQ.out]
      go_wp2_with fail
      refine (progOf_any _ n c p k w1 (H.out.keep x1.keeps) (by omega) hkn).mono ?_; rintro e w2 ⟨rfl, rfl⟩
      go_wp2
      refine bodyPost_ret (results_tmp4 rfl _ _ _) rfl ?_
      exact ⟨by rw [← HR.out]; rfl, x1⟩
  · rw [if_pos h0] at hR
    have g : (q != 0) = true := by simpa using h0
    have HR := Lib.hid hR; clear hR h0 hle
    go_enter Try.func39, Try.ntmps39
    go_wp2_with fail
    refine (progCheck_any _ n c p w H.out hn).mono ?_; rintro e w1 ⟨rfl, x1⟩; rw [HQ.out]
    go_wp2
    refine bodyPost_ret (results_tmp4 rfl _ _ _) rfl ?_
    exact ⟨by rw [← HR.out]; rfl, x1⟩
end Go.Proofs.Ytbpeddbjkppbhaa
