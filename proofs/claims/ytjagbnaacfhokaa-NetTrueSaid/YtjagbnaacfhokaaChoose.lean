/- choose: a place among n, from a raw number. -/
import Derived.Test.YtjagbnaacfhokaaTern
namespace Go.Proofs.Ytjagbnaacfhokaa
set_option linter.unusedVariables false
set_option linter.unusedSimpArgs false
open Go.RowKit

/-- choose: the raw number's place among n. -/
def chooseM (c n : Int) : Int := (if c < 0 then -(c + 1) else c) % n
theorem choose_any (c : Int) (n : Nat) (w : World) (hn : 0 < n) (hn2 : n ≤ 9223372036854775807) (hc1 : -9223372036854775808 ≤ c) (hc2 : c ≤ 9223372036854775807) :
    Calls Try.prog 28 #[I c, I n] w fun e w' => e = .returned (I (chooseM c n)) ∧ w = w' := by
  have hn0 : (0 : Int) < (n : Int) := by omega
  by_cases h : c < 0
  · have HM : Hid (-((c + 1).tmod n) = chooseM c n) := by
      unfold Hid chooseM; rw [if_pos h, ← Int.neg_tmod, Int.tmod_eq_emod_of_nonneg (by omega)]
    go_enter Try.func28, Try.ntmps28
    go_wp2
    go_ret; exact ⟨ret_int HM.out, rfl⟩
  · have HM : Hid (c % n = chooseM c n) := by unfold Hid chooseM; rw [if_neg h]
    go_enter Try.func28, Try.ntmps28
    go_wp2
    go_ret; exact ⟨ret_int HM.out, rfl⟩
theorem choose_range (c : Int) (n : Nat) (hn : 0 < n) : 0 ≤ chooseM c n ∧ chooseM c n < n :=
  ⟨Int.emod_nonneg _ (by omega), Int.emod_lt_of_pos _ (by omega)⟩

end Go.Proofs.Ytjagbnaacfhokaa
