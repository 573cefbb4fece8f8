/- Asked and Step; the reference's StepError. -/
import Derived.Test.YtlafiddfplhafaaFa04
import Derived.Test.YtlafiddfplhafaaFa06
import Derived.Test.YtlafiddfplhafaaFa03
import Derived.Test.YtlafiddfplhafaaFa02
namespace Go.Proofs.Ytlafiddfplhafaa
set_option linter.unusedVariables false
set_option linter.unusedSimpArgs false
set_option linter.unusedVariables false
set_option linter.unusedSimpArgs false
open Go.RowKit
section
variable (i : Int) (GA : Option Addr) (gn gc : Nat) (RA : Option Addr) (rn rc : Nat) (OA : Option Addr) (on oc : Nat) (N : NetM) (RB : Option Addr) (pn pc : Nat) (IA : Option Addr) (jn jc : Nat) (regs ins : List Int) (w : World)
end
end Go.Proofs.Ytlafiddfplhafaa
/- The reference's worth of a gate. -/
namespace Go.Proofs.Ytlafiddfplhafaa
set_option linter.unusedVariables false
set_option linter.unusedSimpArgs false
open Go.RowKit
end Go.Proofs.Ytlafiddfplhafaa
/- The reference's settled and StepOf. -/
namespace Go.Proofs.Ytlafiddfplhafaa
set_option linter.unusedVariables false
set_option linter.unusedSimpArgs false
open Go.RowKit
def mixV (a : List Int) (k n : Nat) : List Int := a.take k ++ List.replicate (n - k) 0
theorem mixV_set {a : List Int} {k n : Nat} {x : Int} (h : k < n) (hx : a[k]? = some x) : (mixV a k n).set k x = mixV a (k + 1) n := by
  unfold mixV
  have hk : k < a.length := (List.getElem?_eq_some_iff.1 hx).1
  rw [List.set_append_right _ _ (by simp; omega)]
  have e : k - (a.take k).length = 0 := by simp; omega
  rw [e, show n - k = (n - (k + 1)) + 1 from by omega, List.replicate_succ, List.set_cons_zero, List.take_add_one, hx]
  simp
theorem mixV_end {a : List Int} {n : Nat} (h : a.length = n) : mixV a n n = a := by
  unfold mixV; rw [List.take_of_length_le (by omega)]; simp
end Go.Proofs.Ytlafiddfplhafaa
/- power and bits of the reference. -/
namespace Go.Proofs.Ytlafiddfplhafaa
set_option linter.unusedVariables false
set_option linter.unusedSimpArgs false
open Go.RowKit
theorem power_any (w : World) : ∀ k : Nat, k ≤ 60 → Calls Try.prog 69 #[I k] w fun e w' => e = .returned (I (2 ^ k : Nat)) ∧ w = w'
  | 0, _ => by
    go_enter Try.func69, Try.ntmps69
    go_wp2
    go_ret
    exact ⟨rfl, rfl⟩
  | k + 1, hk => by
    have ih := power_any w k (by omega)
    have hp : 2 ^ k ≤ 2 ^ 60 := Nat.pow_le_pow_right (by omega) (by omega)
    have h2 : 2 ^ (k + 1) = 2 * 2 ^ k := by rw [Nat.pow_succ]; omega
    rw [h2]
    have hle : ¬ ((k + 1 : Nat) : Int) ≤ 0 := by omega
    have IH := Lib.hid ih; clear ih h2
    have hs : IntKind.i64.wrap (((k + 1 : Nat) : Int) - 1) = k := by rw [show ((k + 1 : Nat) : Int) - 1 = k from by omega]; exact IntWalk.i64_in _ (by omega)
    generalize 2 ^ k = q at *
    have hq : q ≤ 1152921504606846976 := by simpa using hp
    clear hp
    go_enter Try.func69, Try.ntmps69
    go_wp2_with fail
    refine IH.out.mono ?_; rintro e w' ⟨rfl, rfl⟩
    go_wp2
    go_ret
    exact ⟨by simp, rfl⟩
set_option maxHeartbeats 1000000 in
set_option maxRecDepth 100000 in
theorem rbits_any (x : Int) (n : Nat) (w : World) (hx0 : 0 ≤ x) (hx1 : x < 1073741824) (hn : n ≤ 1000) :
    Calls Try.prog 71 #[I x, I n] w fun e w' => ∃ v, e = .returned v ∧ w'.ownsRow w.heap.size 3 1 v n ((bitsM x n).map I) ∧ Ext w w' := by
  go_enter Try.func71, Try.ntmps71
  go_wp2
  go_loopw [0, 5, 6] (fun x' v i wr => ∃ (k : Nat) (y : Int) (zs : List Int), k ≤ n ∧ x' = .int .i64 y ∧ 0 ≤ y ∧ y < 1073741824 ∧ i = .int .i64 k ∧ Ext w wr ∧ wr.ownsRow w.heap.size 3 1 v k (zs.map I) ∧ zs ++ bitsM y (n - k) = bitsM x n) (fun _ _ i _ => n - (intOf i).toNat)
  case atStart => exact ⟨0, x, [], Nat.zero_le _, rfl, hx0, hx1, rfl, Ext.refl _, World.ownsRow_nil _ _ _ _, rfl⟩
  case round =>
    obtain ⟨k, y, zs, hk, rfl, hy0, hy1, rfl, hext, hown, hM⟩ := hrel
    by_cases hlt : k < n
    · rw [show n - k = (n - (k + 1)) + 1 from by omega, bitsM] at hM
      have HM := Lib.hid hM; clear hM
      have HO := Lib.hid hown; clear hown
      go_wp2_with ((at_builtin; refine wpList_push rfl (.tmp 12) (.tmp 15) 23 3 rfl tab_int' Try.underlying23 rfl (by omega) w wr hext _ k _ rfl HO.out [I (y % 2)] rfl rfl rfl (by simp [Value.oneCell']) (by unfold maxLen; omega) (by omega) ?_; intro v' w2 hown2 hx3 _))
      go_roundw
      case rel => exact ⟨k + 1, y / 2, zs ++ [y % 2], by omega, by go_num, by omega, by omega, by go_num, hx3, by simpa using hown2, by rw [← HM.out]; simp⟩
      case measure => simp [intOf]; omega
    · have hkn : k = n := by omega
      subst hkn
      have hz : zs = bitsM x k := by rw [← hM]; simp [bitsM]
      subst hz
      have HO := Lib.hid hown
      clear hM hown
      go_wp2
      go_ret
      exact ⟨_, rfl, HO.out, hext⟩
end Go.Proofs.Ytlafiddfplhafaa
