/- The bodies of NetChecks and NetNeeds, from the contracts. -/
import Derived.Test.YtbpeddbjkppbhaaNetBegun
namespace Go.Proofs.Ytbpeddbjkppbhaa
set_option linter.unusedVariables false
set_option linter.unusedSimpArgs false
open Go.RowKit

section
variable (i : Int) (GA : Option Addr) (gn gc : Nat) (RA : Option Addr) (rn rc : Nat) (OA : Option Addr) (on oc : Nat) (N : NetM) (w : World)
set_option maxHeartbeats 2000000 in
theorem netChecks_walk (h : NetC w i GA gn gc RA rn rc OA on oc N) (hlo : -9223372036854775808 ≤ i) :
    Calls Try.prog 5 #[netV i GA gn gc RA rn rc OA on oc] w fun e w' => e = .returned (.bool true) ∧ Ext w w' := by
  obtain ⟨W, hW⟩ : ∃ W, W = w.alloc (.cells #[I i, .slice GA gn gc, .slice RA rn rc, .slice OA on oc] 39) := ⟨_, rfl⟩
  have hxW : Ext w W := by rw [hW]; exact (Ext.refl _).alloc _
  have hbox : NetBox W w.heap.size i GA gn gc RA rn rc OA on oc := by rw [hW]; exact NetBox.new w i GA gn gc RA rn rc OA on oc _
  have HBox := Lib.hid hbox
  have HC := Lib.hid (h.keep hxW.keeps)
  have HW := Lib.hid hW
  have hrn := h.regs.1
  clear hW hbox h
  by_cases h0 : checkN N = 0
  · have hr20 : rn ≤ 20 := by have := (checkN_ok h0).rl; omega
    have HE := Lib.hid h0; clear h0 hrn
    go_enter Try.func5, Try.ntmps5
    go_wp2_with fail
    rw [← HW.out]
    refine (netBegin_ok i GA gn gc RA rn rc OA on oc N W HC.out HE.out).mono ?_; rintro e' w1 ⟨v, rfl, hown, x1⟩
    obtain ⟨B, cb, rfl, -, -, hs⟩ := own_sl hown
    have HB := Lib.hid hs; clear hs hown
    obtain ⟨q0, q1, q2, q3⟩ := HBox.out.keep x1.keeps
    go_wp2_with fail
    refine (rnet_any i GA gn gc RA rn rc OA on oc N w1 (HC.out.keep x1.keeps) hlo).mono ?_; rintro e' w2 ⟨rfl, h2⟩; rw [HE.out]
    have x2 := x1.trans h2
    have HB2 := Lib.hid (HB.out.keep h2.keeps); clear h2 x1 HB q0 q1 q2 q3
    obtain ⟨q0, q1, q2, q3⟩ := HBox.out.keep x2.keeps
    go_wp2_with fail
    refine (beginOf_any i GA gn gc RA rn rc OA on oc N w2 (HC.out.keep x2.keeps) hr20).mono ?_; rintro e' w3 ⟨v, rfl, hown, h3⟩
    obtain ⟨D, cd, rfl, -, -, hs⟩ := own_sl hown
    have HD := Lib.hid hs; clear hs hown
    have x3 := x2.trans h3
    have HB3 := Lib.hid (HB2.out.keep h3.keeps); clear h3 x2 HB2 q0 q1 q2 q3
    go_wp2_with fail
    refine (netBegun_any w3).mono ?_; rintro e' w4 ⟨rfl, h4⟩
    have x4 := x3.trans h4
    have HB4 := Lib.hid (HB3.out.keep h4.keeps); have HD4 := Lib.hid (HD.out.keep h4.keeps); clear h4 x3 HB3 HD
    obtain ⟨q0, q1, q2, q3⟩ := HBox.out.keep x4.keeps
    go_wp2_with fail
    refine (netCheck_any i GA gn gc RA rn rc OA on oc N w4 (HC.out.keep x4.keeps)).mono ?_; rintro e' w5 ⟨rfl, h5⟩; rw [HE.out]
    have x5 := x4.trans h5
    have HB5 := Lib.hid (HB4.out.keep h5.keeps); have HD5 := Lib.hid (HD4.out.keep h5.keeps); clear h5 x4 HB4 HD4 q0 q1 q2 q3
    go_wp2_with fail
    refine (sameInts_any B D rn rn cb cd _ _ w5 HB5.out HD5.out (by unfold maxLen; omega) (by unfold maxLen; omega)).mono ?_; rintro e' w6 ⟨rfl, m, rfl⟩
    go_wp2
    go_ret
    exact ⟨by simp, hxW.trans (x5.drewN _)⟩
  · have g : (checkN N != 0) = true := by simpa using h0
    have g' : (checkN N == 0) = false := by simpa using h0
    clear h0 hrn
    generalize hq : checkN N = q at *
    have HE := Lib.hid hq; clear hq
    go_enter Try.func5, Try.ntmps5
    go_wp2_with fail
    rw [← HW.out]
    refine (netBegin_err i GA gn gc RA rn rc OA on oc N W HC.out q HE.out g).mono ?_; rintro e' w1 ⟨rfl, x1⟩
    obtain ⟨q0, q1, q2, q3⟩ := HBox.out.keep x1.keeps
    go_wp2_with fail
    refine (rnet_any i GA gn gc RA rn rc OA on oc N w1 (HC.out.keep x1.keeps) hlo).mono ?_; rintro e' w2 ⟨rfl, h2⟩; rw [HE.out]
    have x2 := x1.trans h2; clear h2 x1 q0 q1 q2 q3
    go_wp2_with fail
    refine (netBegun_any w2).mono ?_; rintro e' w4 ⟨rfl, h4⟩
    have x4 := x2.trans h4; clear h4 x2
    obtain ⟨q0, q1, q2, q3⟩ := HBox.out.keep x4.keeps
    go_wp2_with fail
    refine (netCheck_any i GA gn gc RA rn rc OA on oc N w4 (HC.out.keep x4.keeps)).mono ?_; rintro e' w5 ⟨rfl, h5⟩; rw [HE.out]
    have x5 := x4.trans h5; clear h5 x4 q0 q1 q2 q3
    go_wp2_with fail
    refine (sameInts_any none none 0 0 0 0 [] [] w5 (Sl.nil _ _) (Sl.nil _ _) (Nat.zero_le _) (Nat.zero_le _)).mono ?_; rintro e' w6 ⟨rfl, m, rfl⟩
    go_wp2
    go_ret
    exact ⟨by simp, hxW.trans (x5.drewN _)⟩

set_option maxHeartbeats 2000000 in
theorem netNeeds_walk (A : Option Addr) (n c : Nat) (l : List Int) (h : NetC w i GA gn gc RA rn rc OA on oc N) (hs : Sl w A n (l.map I)) (hn : n * 8 ≤ 140737488355328) (hlo : -9223372036854775808 ≤ i) :
    Calls Try.prog 6 #[netV i GA gn gc RA rn rc OA on oc, .slice A n c] w fun e w' => e = .returned (.bool true) ∧ Ext w w' := by
  have hnm : n ≤ maxLen := by unfold maxLen; omega
  obtain ⟨W, hW⟩ : ∃ W, W = w.alloc (.cells #[I i, .slice GA gn gc, .slice RA rn rc, .slice OA on oc] 39) := ⟨_, rfl⟩
  have hxW : Ext w W := by rw [hW]; exact (Ext.refl _).alloc _
  have hbox : NetBox W w.heap.size i GA gn gc RA rn rc OA on oc := by rw [hW]; exact NetBox.new w i GA gn gc RA rn rc OA on oc _
  have HBox := Lib.hid hbox
  have HC := Lib.hid (h.keep hxW.keeps); have HS := Lib.hid (hs.keep hxW.keeps)
  have HW := Lib.hid hW
  have hgl := h.gates.1
  clear hW hbox h hs
  by_cases h0 : needsE N l = 0
  · have hg : gn ≤ 200 := by have := (checkN_ok (needsE_ok h0).1).gl; omega
    have HE := Lib.hid h0; clear h0 hgl
    go_enter Try.func6, Try.ntmps6
    go_wp2_with fail
    rw [← HW.out]
    refine (netNeeds_ok i GA gn gc RA rn rc OA on oc N A n c l W HC.out HS.out hn HE.out).mono ?_; rintro e' w1 ⟨v, rfl, hown, x1⟩
    obtain ⟨B, cb, rfl, -, -, hs⟩ := own_sl hown
    have HB := Lib.hid hs; clear hs hown
    obtain ⟨q0, q1, q2, q3⟩ := HBox.out.keep x1.keeps
    go_wp2_with fail
    refine (needsError_any i GA gn gc RA rn rc OA on oc N A n c l w1 (HC.out.keep x1.keeps) (HS.out.keep x1.keeps) hnm hlo).mono ?_; rintro e' w2 ⟨rfl, h2⟩; rw [HE.out]
    have x2 := x1.trans h2
    have HB2 := Lib.hid (HB.out.keep h2.keeps); clear h2 x1 HB q0 q1 q2 q3
    obtain ⟨q0, q1, q2, q3⟩ := HBox.out.keep x2.keeps
    go_wp2_with fail
    refine (needsOf_any i GA gn gc RA rn rc OA on oc N A n c l w2 (HC.out.keep x2.keeps) (HS.out.keep x2.keeps) (checkN_ok (needsE_ok HE.out).1) (needsE_ok HE.out).2 hnm).mono ?_; rintro e' w3 ⟨v, rfl, hown, h3⟩
    obtain ⟨D, cd, rfl, -, -, hs⟩ := own_sl hown
    have HD := Lib.hid hs; clear hs hown
    have x3 := x2.trans h3
    have HB3 := Lib.hid (HB2.out.keep h3.keeps); clear h3 x2 HB2 q0 q1 q2 q3
    go_wp2_with fail
    refine (netBegun_any w3).mono ?_; rintro e' w4 ⟨rfl, h4⟩
    have x4 := x3.trans h4
    have HB4 := Lib.hid (HB3.out.keep h4.keeps); have HD4 := Lib.hid (HD.out.keep h4.keeps); clear h4 x3 HB3 HD
    go_wp2_with fail
    refine (sameBools_any B D gn gn cb cd _ _ w4 HB4.out HD4.out (by unfold maxLen; omega) (by unfold maxLen; omega)).mono ?_; rintro e' w6 ⟨rfl, m, rfl⟩
    go_wp2
    go_ret
    exact ⟨by simp, hxW.trans (x4.drewN _)⟩
  · have g : (needsE N l != 0) = true := by simpa using h0
    have g' : (needsE N l == 0) = false := by simpa using h0
    clear h0 hgl
    generalize hq : needsE N l = q at *
    have HE := Lib.hid hq; clear hq
    go_enter Try.func6, Try.ntmps6
    go_wp2_with fail
    rw [← HW.out]
    refine (netNeeds_err i GA gn gc RA rn rc OA on oc N A n c l W HC.out HS.out hnm q HE.out g).mono ?_; rintro e' w1 ⟨rfl, x1⟩
    obtain ⟨q0, q1, q2, q3⟩ := HBox.out.keep x1.keeps
    go_wp2_with fail
    refine (needsError_any i GA gn gc RA rn rc OA on oc N A n c l w1 (HC.out.keep x1.keeps) (HS.out.keep x1.keeps) hnm hlo).mono ?_; rintro e' w2 ⟨rfl, h2⟩; rw [HE.out]
    have x2 := x1.trans h2; clear h2 x1 q0 q1 q2 q3
    go_wp2_with fail
    refine (netBegun_any w2).mono ?_; rintro e' w4 ⟨rfl, h4⟩
    have x4 := x2.trans h4; clear h4 x2
    go_wp2_with fail
    refine (sameBools_any none none 0 0 0 0 [] [] w4 (Sl.nil _ _) (Sl.nil _ _) (Nat.zero_le _) (Nat.zero_le _)).mono ?_; rintro e' w6 ⟨rfl, m, rfl⟩
    go_wp2
    go_ret
    exact ⟨by simp, hxW.trans (x4.drewN _)⟩
end
end Go.Proofs.Ytbpeddbjkppbhaa
