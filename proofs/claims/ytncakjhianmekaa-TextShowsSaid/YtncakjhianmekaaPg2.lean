/- prog.Of, prog.Parts. -/
import Derived.Test.YtncakjhianmekaaPg
namespace Go.Proofs.Ytncakjhianmekaa
set_option linter.unusedVariables false
set_option linter.unusedSimpArgs false
open Go.RowKit

theorem progOf_any (A : Option Addr) (n c : Nat) (p : List PNode) (k : Nat) (w : World) (h : SlN w A n p) (hn : n ≤ 60000) (hk : k < n) :
    Calls Try.prog 25 #[.slice A n c, I k] w fun e w' => e = .returned (Pr3 (I (ofP p k).1) (I (ofP p k).2.1) (I (ofP p k).2.2)) ∧ w = w' := by
  obtain ⟨b, off, x, rfl, hc, hc', hd, hx⟩ := h.next hk
  generalize hR : ofP p k = R
  unfold ofP at hR
  rw [hx] at hR
  have H := Lib.hid h
  have HR := Lib.hid hR
  clear h hx hd hR
  cases ht : two x.kind
  all_goals
    have HT := Lib.hid ht; clear ht
    go_enter Try.func25, Try.ntmps25
    go_wp2_with fail
    refine (two_any _ _).mono ?_; rintro e w' ⟨rfl, rfl⟩; rw [HT.out]
    go_wp2_with (go_at_call 23; with_reducible refine (one_any _ n c p _ w H.out (by omega) (by omega)).mono ?_; rintro e w' ⟨rfl, rfl⟩)
    go_ret3
    exact ⟨by rw [← HR.out]; simp only [HT.out]; rfl, rfl⟩

end Go.Proofs.Ytncakjhianmekaa
