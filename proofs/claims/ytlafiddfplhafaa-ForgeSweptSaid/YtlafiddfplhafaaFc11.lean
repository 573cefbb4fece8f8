/- Solves, by the program and by the reference; StepOf. -/
import Derived.Test.YtlafiddfplhafaaFc08
import Derived.Test.YtlafiddfplhafaaFc10
import Derived.Test.YtlafiddfplhafaaFc07
import Derived.Test.YtlafiddfplhafaaFc02
import Derived.Laws.Bits64b
import Derived.WalkSmall
namespace Go.Proofs.Ytlafiddfplhafaa
set_option linter.unusedVariables false
set_option linter.unusedSimpArgs false
set_option linter.unusedVariables false
set_option linter.unusedSimpArgs false
open Go.RowKit
section
variable (i : Int) (GA : Option Addr) (gn gc : Nat) (RA : Option Addr) (rn rc : Nat) (OA : Option Addr) (on oc : Nat) (N : NetM) (RB : Option Addr) (pn pc : Nat) (IA : Option Addr) (jn jc : Nat) (regs ins : List Int) (w : World)
end
end Go.Proofs.Ytlafiddfplhafaa
/- Order and Step of level, by the program and by the reference. -/
namespace Go.Proofs.Ytlafiddfplhafaa
set_option linter.unusedVariables false
set_option linter.unusedSimpArgs false
open Go.RowKit
theorem ord_range {gs : List GateM} : ∀ {l : List Int} {o : List Bool}, OrdM gs o l → ∀ x ∈ l, 0 ≤ x ∧ ∃ g, gs[x.toNat]? = some g
  | [], _, _, x, hx => by simp at hx
  | k :: l, o, ⟨h0, ⟨g, hg, _⟩, h3⟩, x, hx => by
    rcases List.mem_cons.1 hx with rfl | hx
    · exact ⟨h0, g, hg⟩
    · exact ord_range h3 x hx
def orderV (N : NetM) : List Int × Int := if checkN N ≠ 0 then ([], checkN N) else match orderM N.gates with | some l => (l, 0) | none => ([], 5)
section
variable (i : Int) (GA : Option Addr) (gn gc : Nat) (RA : Option Addr) (rn rc : Nat) (OA : Option Addr) (on oc : Nat) (N : NetM) (RB : Option Addr) (pn pc : Nat) (IA : Option Addr) (jn jc : Nat) (regs ins : List Int) (w : World)
set_option maxHeartbeats 2000000 in
theorem order_any (h : NetC w i GA gn gc RA rn rc OA on oc N) :
    Calls Try.prog 18 #[netV i GA gn gc RA rn rc OA on oc] w fun e w' => ∃ v, e = .returned (Pr v (I (orderV N).2)) ∧ w'.ownsRow w.heap.size 3 1 v (orderV N).1.length ((orderV N).1.map I) ∧ Ext w w' := by
  generalize hM : orderV N = M
  unfold orderV at hM
  obtain ⟨W, hW⟩ : ∃ W, W = w.alloc (.cells #[I i, .slice GA gn gc, .slice RA rn rc, .slice OA on oc] 39) := ⟨_, rfl⟩
  have hxW : Ext w W := by rw [hW]; exact (Ext.refl _).alloc _
  have hbox : NetBox W w.heap.size i GA gn gc RA rn rc OA on oc := by rw [hW]; exact NetBox.new w i GA gn gc RA rn rc OA on oc _
  have HN := Lib.hid (h.keep hxW.keeps); have HBox := Lib.hid hbox; have HW := Lib.hid hW; have HX := Lib.hid hxW
  clear h hW hxW hbox
  by_cases h0 : checkN N = 0
  · rw [if_neg (by simp [h0])] at hM
    have HOK := Lib.hid (checkN_ok h0)
    have H0 := Lib.hid h0; clear h0
    cases hO : orderM N.gates with
    | none =>
      rw [hO] at hM
      have HM := Lib.hid hM; have HO := Lib.hid hO
      clear hM hO
      go_enter Try.func18, Try.ntmps18
      go_wp2_with fail
      rw [← HW.out]
      refine (netCheck_any _ GA gn gc RA rn rc OA on oc N W HN.out).mono ?_; rintro e w1 ⟨rfl, x1⟩; rw [H0.out]
      obtain ⟨q0, q1, q2, q3⟩ := HBox.out.keep x1.keeps
      have X1 := Lib.hid x1; clear x1
      go_wp2_with fail
      have hof := levelOf_any i GA gn gc RA rn rc OA on oc N w1 (HN.out.keep X1.out.keeps) HOK.out
      rw [HO.out] at hof
      refine hof.mono ?_; rintro e w2 ⟨rfl, x2⟩
      go_wp2
      go_ret2
      exact ⟨.slice none 0 0, by rw [← HM.out]; rfl, by rw [← HM.out]; exact World.ownsRow_nil _ _ _ _, (HX.out.trans X1.out).trans x2⟩
    | some l =>
      rw [hO] at hM
      have HM := Lib.hid hM; have HO := Lib.hid hO
      clear hM hO
      go_enter Try.func18, Try.ntmps18
      go_wp2_with fail
      rw [← HW.out]
      refine (netCheck_any _ GA gn gc RA rn rc OA on oc N W HN.out).mono ?_; rintro e w1 ⟨rfl, x1⟩; rw [H0.out]
      obtain ⟨q0, q1, q2, q3⟩ := HBox.out.keep x1.keeps
      have X1 := Lib.hid x1; clear x1
      go_wp2_with fail
      have hof := levelOf_any i GA gn gc RA rn rc OA on oc N w1 (HN.out.keep X1.out.keeps) HOK.out
      rw [HO.out] at hof
      refine hof.mono ?_; rintro e w2 ⟨v, rfl, hown, x2⟩
      go_wp2
      go_ret2
      exact ⟨v, by rw [← HM.out]; rfl, by rw [← HM.out]; exact own_base hown (HX.out.trans X1.out).size, (HX.out.trans X1.out).trans x2⟩
  · rw [if_pos h0] at hM
    have g : (checkN N != 0) = true := by simpa using h0
    have HM := Lib.hid hM; clear hM h0
    go_enter Try.func18, Try.ntmps18
    go_wp2_with fail
    rw [← HW.out]
    refine (netCheck_any _ GA gn gc RA rn rc OA on oc N W HN.out).mono ?_; rintro e w1 ⟨rfl, x1⟩
    go_wp2
    go_ret2
    exact ⟨.slice none 0 0, by rw [← HM.out]; rfl, by rw [← HM.out]; exact World.ownsRow_nil _ _ _ _, HX.out.trans x1⟩
end
end Go.Proofs.Ytlafiddfplhafaa
/- Words of 64 lanes in the program's memory: SameWords, lane. -/
namespace Go.Proofs.Ytlafiddfplhafaa
set_option linter.unusedVariables false
set_option linter.unusedSimpArgs false
open Go.RowKit
def uI (x : BitVec 64) : Int := (x.toNat : Int)
abbrev U (x : BitVec 64) : Value := .int .u64 (uI x)
theorem uI_range (x : BitVec 64) : 0 ≤ uI x ∧ uI x < 18446744073709551616 := by unfold uI; have := x.isLt; omega
theorem uI_and (x y : BitVec 64) : bits .and .u64 (uI x) (uI y) = uI (x &&& y) := by
  unfold uI; rw [bits_and_u64_nat _ _ x.isLt y.isLt, BitVec.toNat_and]
theorem uI_or (x y : BitVec 64) : bits .or .u64 (uI x) (uI y) = uI (x ||| y) := by
  unfold uI; rw [bits_or_u64_nat _ _ x.isLt y.isLt, BitVec.toNat_or]
theorem uI_lane (x : BitVec 64) (k : Nat) : bits .and .u64 (uI x / 2 ^ k) 1 = bitI k x := by
  have h := uI_range x
  have h0 : 0 ≤ uI x / 2 ^ k := Int.ediv_nonneg h.1 (Int.le_of_lt (Int.pow_pos (by decide)))
  have h1 : uI x / 2 ^ k ≤ uI x := Int.ediv_le_self _ h.1
  rw [and_one_u64 _ h0 (by omega)]
  unfold uI bitI
  have e0 : ((x.toNat : Int) / 2 ^ k) % 2 = ((x.toNat / 2 ^ k % 2 : Nat) : Int) := by simp
  rw [e0, show x.getLsbD k = x.toNat.testBit k from rfl, Nat.testBit_eq_decide_div_mod_eq]
  rcases Nat.mod_two_eq_zero_or_one (x.toNat / 2 ^ k) with e | e <;> rw [e] <;> rfl
end Go.Proofs.Ytlafiddfplhafaa
