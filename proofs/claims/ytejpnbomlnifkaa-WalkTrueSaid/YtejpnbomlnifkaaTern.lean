/- The functions of three values (package tern, and the reference): each walked once. -/
import Derived.Test.YtejpnbomlnifkaaChecked
import Derived.Test.YtejpnbomlnifkaaLib
import Derived.Test.YtejpnbomlnifkaaTernPlain
namespace Go.Proofs.Ytejpnbomlnifkaa
set_option linter.unusedVariables false
set_option linter.unusedSimpArgs false
open Go.RowKit

theorem within_any (n lo hi : Int) (w : World) :
    Calls Try.prog 29 #[I n, I lo, I hi] w fun e w' => e = .returned (.bool (decide (lo ≤ n) && decide (n ≤ hi))) ∧ w = w' := by
  go_enter Try.func29, Try.ntmps29
  go_wp2
  all_goals go_ret
  all_goals exact ⟨ret_bool (by simp <;> omega), rfl⟩

/-! gather -/
/-! IndexFunc, ContainsFunc, Check -/
/-- What a function value answers of one number, in world w, nothing turned. -/
def Asks (P : Program) (g : FuncId) (caps : Array Value) (w : World) (q : Int → Bool) : Prop :=
  (∀ args W, (callFunc g args).run P W = .ok (.enter g args) W) ∧ ∀ x, Calls P g (#[I x] ++ caps) w fun e w' => e = .returned (.bool (q x)) ∧ w = w'

theorem indexFunc_any (A : Option Addr) (n c : Nat) (xs : List Int) (g : FuncId) (caps : Array Value) (q : Int → Bool) (w : World) (h : Sl w A n (xs.map I)) (hn : n ≤ maxLen) (hq : Asks Try.prog g caps w q) :
    Calls Try.prog 45 #[.slice A n c, .func (.func g) #[] caps] w fun e w' => e = .returned (I (indexM q xs 0)) ∧ w = w' := by
  unfold maxLen at hn
  have H := Lib.hid h; clear h
  have HQ := Lib.hid hq; clear hq
  go_enter Try.func45, Try.ntmps45
  go_wp2
  go_loop [8] (fun i => ∃ (k : Nat), k ≤ n ∧ i = .int .i64 k ∧ indexM q (xs.drop k) k = indexM q xs 0) (fun i => n - (intOf i).toNat)
  case atStart => exact ⟨0, Nat.zero_le _, rfl, rfl⟩
  case round =>
    obtain ⟨k, hk, rfl, hM⟩ := hrel
    by_cases hlt : k < n
    · obtain ⟨b, off, x, rfl, hc, hd⟩ := H.out.next hlt
      rw [hd, indexM] at hM
      have HM := Lib.hid hM; clear hM hd
      have hcf := HQ.out.1
      by_cases hqx : q x = true
      all_goals
        go_wp2_with (refine (HQ.out.2 x).mono ?_; rintro e w' ⟨rfl, rfl⟩)
      · go_ret; exact ⟨ret_int (by rw [← HM.out, if_pos hqx]), rfl⟩
      · go_round
        case rel => exact ⟨k + 1, by omega, by go_num, by rw [← HM.out, if_neg hqx]; simp⟩
        case measure => simp [intOf]; omega
    · rw [H.out.drop_end hlt, indexM] at hM
      have HM := Lib.hid hM; clear hM
      go_wp2
      go_ret; exact ⟨ret_int HM.out, rfl⟩

theorem containsFunc_any (A : Option Addr) (n c : Nat) (xs : List Int) (g : FuncId) (caps : Array Value) (q : Int → Bool) (w : World) (h : Sl w A n (xs.map I)) (hn : n ≤ maxLen) (hq : Asks Try.prog g caps w q) :
    Calls Try.prog 21 #[.slice A n c, .func (.func g) #[] caps] w fun e w' => e = .returned (.bool (xs.any q)) ∧ w = w' := by
  have H := Lib.hid h; clear h
  have HQ := Lib.hid hq; clear hq
  have HM := Lib.hid (indexM_lo q xs 0 (Int.le_refl _))
  go_enter Try.func21, Try.ntmps21
  go_wp2_with (go_at_call 45; refine (indexFunc_any A n c xs g caps q w H.out hn HQ.out).mono ?_; rintro e w' ⟨rfl, rfl⟩)
  go_ret; exact ⟨ret_bool HM.out, rfl⟩

/-! the reference -/
end Go.Proofs.Ytejpnbomlnifkaa
