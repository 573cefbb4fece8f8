/- What the begun check of texts answers. -/
import Derived.Test.YtncakjhianmekaaTextSame
import Derived.Test.YtncakjhianmekaaTextRead
namespace Go.Proofs.Ytncakjhianmekaa
set_option linter.unusedVariables false
set_option linter.unusedSimpArgs false
open Go.RowKit

def playT : Tr := .two ⟨5, 0⟩ (.two ⟨6, 0⟩ (.two ⟨5, 0⟩ (.leaf ⟨4, 0⟩) (.leaf ⟨3, 0⟩)) (.two ⟨5, 0⟩ (.leaf ⟨1, 0⟩) (.leaf ⟨3, 1⟩))) (.two ⟨5, 0⟩ (.leaf ⟨1, 0⟩) (.two ⟨8, 0⟩ (.leaf ⟨3, 2⟩) (.leaf ⟨2, 0⟩)))
theorem playT_flat : playT.flat = playM := rfl
theorem playT_ok : playT.ok := by simp [playT, Tr.ok, two]
theorem playT_good : ∀ x ∈ playT.flat, goodN x := by
  rw [playT_flat]; intro x hx
  simp only [playM, List.mem_cons, List.not_mem_nil, or_false] at hx
  rcases hx with rfl | rfl | rfl | rfl | rfl | rfl | rfl | rfl | rfl | rfl | rfl | rfl | rfl <;> exact ⟨rfl, rfl⟩
def playS : List UInt8 := textT playT
theorem playS_eq : playS = [40, 40, 40, 97, 119, 97, 105, 116, 32, 120, 59, 32, 101, 109, 105, 116, 32, 65, 41, 32, 124, 32, 40, 112, 97, 117, 115, 101, 59, 32, 101, 109, 105, 116, 32, 66, 41, 41, 59, 32, 40, 112, 97, 117, 115, 101, 59, 32, 119, 97, 115, 32, 65, 32, 116, 104, 101, 110, 32, 101, 109, 105, 116, 32, 67, 32, 101, 108, 115, 101, 32, 104, 97, 108, 116, 32, 101, 110, 100, 41, 41] := by rfl
theorem playS_read : readT 15 14 playS = some (playT, []) := by
  have := read_whole 15 playT 14 [] playT_ok playT_good (by decide) (by decide)
  rwa [List.append_nil] at this
theorem play_any (w : World) : Calls Try.prog 20 #[] w fun e w' => e = .returned (.slice (some ⟨w.heap.size, 0, none⟩) 13 13) ∧ w.alloc (.cells #[.int .i64 5, .int .i64 0, .int .i64 6, .int .i64 0, .int .i64 5, .int .i64 0, .int .i64 4, .int .i64 0, .int .i64 3, .int .i64 0, .int .i64 5, .int .i64 0, .int .i64 1, .int .i64 0, .int .i64 3, .int .i64 1, .int .i64 5, .int .i64 0, .int .i64 1, .int .i64 0, .int .i64 8, .int .i64 0, .int .i64 3, .int .i64 2, .int .i64 2, .int .i64 0] 37) = w' := by
  go_enter Try.func20, Try.ntmps20
  go_wp2
  go_ret
  exact ⟨rfl, rfl⟩
theorem play_any' (w : World) : Calls Try.prog 20 #[] w fun e w' => e = .returned (.slice (some ⟨w.heap.size, 0, none⟩) 13 13) ∧ SlN w' (some ⟨w.heap.size, 0, none⟩) 13 playT.flat ∧ Ext w w' := by
  refine (play_any w).mono ?_; rintro e w1 ⟨rfl, rfl⟩
  exact ⟨rfl, by exact Sl2.newAt PK PS w _ playM _ _ rfl rfl, (Ext.refl _).alloc _⟩
set_option maxHeartbeats 2000000 in
theorem textBegun_any (w : World) : Calls Try.prog 9 #[] w fun e w' => e = .returned (.bool true) ∧ Ext w w' := by
  go_enter Try.func9, Try.ntmps9
  go_wp2_with fail
  refine (play_any' _).mono ?_; rintro e w1 ⟨rfl, hp, x1⟩
  go_wp2_with fail
  refine (show_ok _ 13 13 playT w1 hp playT_ok (by decide) playT_good).mono ?_; rintro e w2 ⟨rfl, x2⟩
  have X2 := Lib.hid (x1.trans x2); clear x1 x2 hp
  rw [show textT playT = playS from rfl]
  go_wp2_with fail
  refine (read_ok playS w2 (by rw [playS_eq]; decide) playT playS_read).mono ?_; rintro e w3 ⟨A, c, rfl, sl, k1, k2, x3⟩
  have X3 := Lib.hid (X2.out.trans x3); have SL := Lib.hid sl; have K2 := Lib.hid k2; clear x3 sl k1 k2 X2
  rw [show playT.size = 13 from rfl] at SL ⊢
  go_wp2_with fail
  refine (read_more [112, 97, 117, 115, 101, 32] w3 (by decide) (.leaf ⟨1, 0⟩) [32] rfl (by decide)).mono ?_; rintro e w4 ⟨rfl, x4⟩
  have X4 := Lib.hid (X3.out.trans x4); have SL4 := Lib.hid (SL.out.keep x4.keeps); clear x4 SL X3
  go_wp2_with fail
  refine (play_any' _).mono ?_; rintro e w5 ⟨rfl, hp, x5⟩
  have X5 := Lib.hid (X4.out.trans x5); have SL5 := Lib.hid (SL4.out.keep x5.keeps); have HP := Lib.hid hp; clear x5 hp SL4 X4
  go_wp2_with fail
  refine (sameProgs_any A _ 13 13 c 13 playT.flat playT.flat w5 SL5.out HP.out (by unfold maxLen; omega) (by unfold maxLen; omega)).mono ?_; rintro e w6 ⟨rfl, m, rfl⟩
  rw [decide_eq_true (rfl : playT.flat = playT.flat), playS_eq]
  go_wp2
  go_ret
  exact ⟨rfl, X5.out.drewN _⟩
end Go.Proofs.Ytncakjhianmekaa
