/- The reference's PartsOf and WaitsOf; play; what the begun check answers. -/
import Derived.Test.YtejpnbomlnifkaaPg4
namespace Go.Proofs.Ytejpnbomlnifkaa
set_option linter.unusedVariables false
set_option linter.unusedSimpArgs false
open Go.RowKit

theorem rcheck_any' (A : Option Addr) (n c : Nat) (p : List PNode) (w : World) (h : SlN w A n p) (hn : n ≤ maxLen) :
    Calls Try.prog 12 #[.slice A n c] w fun e w' => e = .returned (I (checkP p)) ∧ w = w' := by
  rw [← rcheckP_eq]; exact rcheck_any A n c p w h hn

theorem play_any (w : World) : Calls Try.prog 31 #[] w fun e w' => e = .returned (.slice (some ⟨w.heap.size, 0, none⟩) 13 13) ∧ w.alloc (.cells #[.int .i64 5, .int .i64 0, .int .i64 6, .int .i64 0, .int .i64 5, .int .i64 0, .int .i64 4, .int .i64 0, .int .i64 3, .int .i64 0, .int .i64 5, .int .i64 0, .int .i64 1, .int .i64 0, .int .i64 3, .int .i64 1, .int .i64 5, .int .i64 0, .int .i64 1, .int .i64 0, .int .i64 8, .int .i64 0, .int .i64 3, .int .i64 2, .int .i64 2, .int .i64 0] 63) = w' := by
  go_enter Try.func31, Try.ntmps31
  go_wp2
  go_ret
  exact ⟨rfl, rfl⟩

/-- choose: the raw number's place among n. -/
def chooseM (c n : Int) : Int := (if c < 0 then -(c + 1) else c) % n
theorem choose_any (c : Int) (n : Nat) (w : World) (hn : 0 < n) (hn2 : n ≤ 9223372036854775807) (hc1 : -9223372036854775808 ≤ c) (hc2 : c ≤ 9223372036854775807) :
    Calls Try.prog 9 #[I c, I n] w fun e w' => e = .returned (I (chooseM c n)) ∧ w = w' := by
  have hn0 : (0 : Int) < (n : Int) := by omega
  by_cases h : c < 0
  · have HM : Hid (-((c + 1).tmod n) = chooseM c n) := by
      unfold Hid chooseM; rw [if_pos h, ← Int.neg_tmod, Int.tmod_eq_emod_of_nonneg (by omega)]
    go_enter Try.func9, Try.ntmps9
    go_wp2
    go_ret; exact ⟨ret_int HM.out, rfl⟩
  · have HM : Hid (c % n = chooseM c n) := by unfold Hid chooseM; rw [if_neg h]
    go_enter Try.func9, Try.ntmps9
    go_wp2
    go_ret; exact ⟨ret_int HM.out, rfl⟩
theorem choose_range (c : Int) (n : Nat) (hn : 0 < n) : 0 ≤ chooseM c n ∧ chooseM c n < n :=
  ⟨Int.emod_nonneg _ (by omega), Int.emod_lt_of_pos _ (by omega)⟩

theorem sl3 (b : Nat) (w : World) (T : TypeId) (hb : b = w.heap.size) : Sl (w.alloc (.cells #[.bool false, .bool true, .bool false] T)) (some ⟨b, 0, none⟩) 3 ([false, true, false].map Bv) :=
  Sl.newAt w b [Bv false, Bv true, Bv false] T hb

end Go.Proofs.Ytejpnbomlnifkaa
