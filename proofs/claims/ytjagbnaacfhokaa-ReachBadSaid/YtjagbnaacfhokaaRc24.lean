/- The two nets of the laws, as contracts. -/
import Derived.Test.YtjagbnaacfhokaaRc23
import Derived.Test.YtjagbnaacfhokaaRc14
namespace Go.Proofs.Ytjagbnaacfhokaa
set_option linter.unusedVariables false
set_option linter.unusedSimpArgs false
open Go.RowKit

theorem knot_ok (w : World) : Calls Try.prog 74 #[] w fun e w' => ∃ n, e = .returned (knotV n) ∧ NetC w' 1 (some ⟨n + 8, 0, none⟩) 10 10 (some ⟨n + 9, 0, none⟩) 1 1 (some ⟨n + 10, 0, none⟩) 2 2 knotM ∧ Ext w w' :=
  (knot_any w).mono fun e w' ⟨h1, h2⟩ => ⟨w.heap.size, h1, by rw [← h2]; exact knotC0 w, by rw [← h2]; exact knotW_ext w⟩
def looseGs (n : Nat) : List GateL := [(⟨2, 0, []⟩, none), (⟨5, 0, [0, 2]⟩, some ⟨n + 1, 0, none⟩), (⟨4, 0, [1]⟩, some ⟨n + 2, 0, none⟩)]
def looseOs (n : Nat) : List Obj :=
  [.cells #[I 1, .slice (some ⟨n + 3, 0, none⟩) 3 3, .slice none 0 0, .slice (some ⟨n + 4, 0, none⟩) 1 1] 26,
    .cells #[I 0, I 2] 3, .cells #[I 1] 3, .cells (gateCells (looseGs n)).toArray 34, .cells #[I 1] 3]
def looseM : NetM := ⟨1, [⟨2, 0, []⟩, ⟨5, 0, [0, 2]⟩, ⟨4, 0, [1]⟩], [], [1]⟩
abbrev looseV (n : Nat) : Value := netV 1 (some ⟨n + 3, 0, none⟩) 3 3 none 0 0 (some ⟨n + 4, 0, none⟩) 1 1
theorem looseC (w : World) : NetC (allocs w (looseOs w.heap.size)) 1 (some ⟨w.heap.size + 3, 0, none⟩) 3 3 none 0 0 (some ⟨w.heap.size + 4, 0, none⟩) 1 1 looseM := by
  have hl : ∀ (j : Nat) (cs : List Int) (T : TypeId), (looseOs w.heap.size)[j]? = some (.cells (cs.map I).toArray T) → Sl (allocs w (looseOs w.heap.size)) (some ⟨w.heap.size + j, 0, none⟩) cs.length (cs.map I) := fun j cs T h => by
    have := Sl.lit (w := w) (cs := cs.map I) h rfl; simpa using this
  refine ⟨rfl, ?_, Sl2.nil _ _ _ _, ?_, ⟨by decide, ml_small (by decide)⟩, ⟨by decide, ml_small (by decide)⟩, ⟨by decide, ml_small (by decide)⟩⟩
  · refine SlG.lit (j := 3) (gs := looseGs w.heap.size) (T := 34) (fr := (0, 0)) rfl rfl ?_
    intro p hp
    simp only [looseGs, List.mem_cons, List.not_mem_nil, or_false] at hp
    rcases hp with rfl | rfl | rfl
    · exact ⟨ml_small (by decide), Sl.nil _ _⟩
    · exact ⟨ml_small (by simp), hl 1 [0, 2] 3 rfl⟩
    · exact ⟨ml_small (by simp), hl 2 [1] 3 rfl⟩
  · exact hl 4 [1] 3 rfl
theorem loose_any (w : World) : Calls Try.prog 78 #[] w fun e w' => e = .returned (looseV w.heap.size) ∧ allocs w (looseOs w.heap.size) = w' := by
  go_enter Try.func78, Try.ntmps78
  go_wp2
  exact bodyPost_ret (v := looseV w.heap.size) (by simp [results, Try.results78, go_sem]) rfl ⟨rfl, rfl⟩
theorem loose_ok (w : World) : Calls Try.prog 78 #[] w fun e w' => ∃ n, e = .returned (looseV n) ∧ NetC w' 1 (some ⟨n + 3, 0, none⟩) 3 3 none 0 0 (some ⟨n + 4, 0, none⟩) 1 1 looseM ∧ Ext w w' :=
  (loose_any w).mono fun e w' ⟨h1, h2⟩ => ⟨w.heap.size, h1, by rw [← h2]; exact looseC w, by rw [← h2]; exact allocs_ext _ _⟩
end Go.Proofs.Ytjagbnaacfhokaa
/- What must be in any case of eval. -/
namespace Go.Proofs.Ytjagbnaacfhokaa
set_option linter.unusedVariables false
set_option linter.unusedSimpArgs false
open Go.RowKit

section
variable {i : Int} {GA : Option Addr} {gn gc : Nat} {RA : Option Addr} {rn rc : Nat} {OA : Option Addr} {on oc : Nat} {N : NetM} {w : World}
/-- Step of what is known. -/
theorem step_lit (RB : Option Addr) (pn pc : Nat) (IA : Option Addr) (jn jc : Nat) (regs ins vs : List Int) (x : Int) (n : Nat) (hn : vs.length = n) (hM : stepV N regs ins = (vs, x)) (h : NetC w i GA gn gc RA rn rc OA on oc N) (hr : Sl w RB pn (regs.map I)) (hi : Sl w IA jn (ins.map I)) (hpm : pn ≤ 1000) (hjm : jn ≤ 1000) :
    Calls Try.prog 30 #[netV i GA gn gc RA rn rc OA on oc, .slice RB pn pc, .slice IA jn jc] w fun e w' => ∃ A c, e = .returned (Pr (.slice A n c) (I x)) ∧ Sl w' A n (vs.map I) ∧ Ext w w' :=
  (evalStep_any i GA gn gc RA rn rc OA on oc N RB pn pc IA jn jc regs ins w h hr hi (ml_small hpm) (ml_small hjm)).mono fun e w' ⟨v, he, hown, hx⟩ => by
    rw [hM] at he hown
    obtain ⟨A, c, rfl, -, -, hs⟩ := own_sl hown
    rw [hn] at he hs
    exact ⟨A, c, he, hs, hx⟩
theorem solves_lit (RB : Option Addr) (pn pc : Nat) (IA : Option Addr) (jn jc : Nat) (VA : Option Addr) (vn vc : Nat) (regs ins v : List Int) (b : Bool) (x : Int) (hM : solvesV N regs ins v = (b, x)) (h : NetC w i GA gn gc RA rn rc OA on oc N) (hr : Sl w RB pn (regs.map I)) (hi : Sl w IA jn (ins.map I)) (hv : Sl w VA vn (v.map I)) (hpm : pn ≤ 1000) (hjm : jn ≤ 1000) (hvm : vn ≤ 1000) :
    Calls Try.prog 34 #[netV i GA gn gc RA rn rc OA on oc, .slice RB pn pc, .slice IA jn jc, .slice VA vn vc] w fun e w' => e = .returned (Pr (Bv b) (I x)) ∧ Ext w w' :=
  (evalSolves_any i GA gn gc RA rn rc OA on oc N RB pn pc IA jn jc VA vn vc regs ins v w h hr hi hv (ml_small hpm) (ml_small hjm) (ml_small hvm)).mono fun e w' ⟨he, hx⟩ => by
    rw [hM] at he; exact ⟨he, hx⟩
theorem same_lit (A B : Option Addr) (n c d : Nat) (xs : List Int) (Q : World) (h : Sl Q A n (xs.map I)) (h' : Sl Q B n (xs.map I)) (hn : n ≤ 1000) : Calls Try.prog 33 #[.slice A n c, .slice B n d] Q fun e w' => e = .returned (.bool true) ∧ Ext Q w' :=
  (sameInts_any A B n n c d xs xs Q h h' (ml_small hn) (ml_small hn)).mono fun e w' ⟨he, m, hm⟩ => ⟨by rw [he]; simp, by rw [hm]; exact (Ext.refl Q).drewN m⟩
end

set_option maxRecDepth 100000 in
set_option maxHeartbeats 8000000 in
theorem evalBegun_any (w : World) : Calls Try.prog 32 #[] w fun e w' => e = .returned (.bool true) ∧ Ext w w' := by
  go_enter Try.func32, Try.ntmps32
  go_wp2_with fail
  refine (knot_ok w).mono ?_; rintro e w1 ⟨n1, rfl, hn, x1⟩
  have HN := Lib.hid hn; have X := Lib.hid x1; clear hn x1
  go_wp2_with fail
  refine (step_lit _ 1 1 _ 1 1 [0] [1] [1, 0, 1, 0, 1, 0, 1, 1, 0, 0] 0 10 rfl (by decide +kernel) ((HN.out.keep (Keeps.alloc _ _)).keep (Keeps.alloc _ _)) ((Sl.newAt _ _ [I 0] _ rfl).keep (Keeps.alloc _ _)) (Sl.newAt _ _ [I 1] _ (by simp)) (by omega) (by omega)).mono ?_
  rintro e w2 ⟨A1', c1, rfl, hs, x2⟩
  have hx := ((X.out.alloc _).alloc _).trans x2
  have S1 := Lib.hid hs; have X2 := Lib.hid hx; clear hs hx x2 HN X
  go_wp2_with fail
  refine (loose_ok w2).mono ?_; rintro e w3 ⟨n2, rfl, hn, x3⟩
  have HN := Lib.hid hn; have X3 := Lib.hid x3; clear hn x3
  go_wp2_with fail
  refine (step_lit none 0 0 _ 1 1 [] [0] [0, 2, 2] 0 3 rfl (by decide +kernel) (HN.out.keep (Keeps.alloc _ _)) (Sl.nil _ _) (Sl.newAt _ _ [I 0] _ rfl) (by omega) (by omega)).mono ?_
  rintro e w4 ⟨A2, c2, rfl, hs, x4⟩
  have hk := (X3.out.alloc _).trans x4
  have hx := X2.out.trans hk
  have S2 := Lib.hid hs; have S1' := Lib.hid (S1.out.keep hk.keeps); have X4 := Lib.hid hx; clear hs hx hk x4 HN X3 X2 S1
  go_wp2_with fail
  refine (loose_ok w4).mono ?_; rintro e w5 ⟨n3, rfl, hn, x5⟩
  have HN := Lib.hid hn; have X5 := Lib.hid x5; clear hn x5
  go_wp2_with fail
  refine (step_lit none 0 0 _ 1 1 [] [1] [1, 1, 1] 0 3 rfl (by decide +kernel) (HN.out.keep (Keeps.alloc _ _)) (Sl.nil _ _) (Sl.newAt _ _ [I 1] _ rfl) (by omega) (by omega)).mono ?_
  rintro e w6 ⟨A3, c3, rfl, hs, x6⟩
  have hk := (X5.out.alloc _).trans x6
  have hx := X4.out.trans hk
  have S3 := Lib.hid hs; have S1 := Lib.hid (S1'.out.keep hk.keeps); have S2' := Lib.hid (S2.out.keep hk.keeps); have X6 := Lib.hid hx; clear hs hx hk x6 HN X5 X4 S1' S2
  go_wp2_with fail
  refine (loose_ok w6).mono ?_; rintro e w7 ⟨n4, rfl, hn, x7⟩
  have HN := Lib.hid hn; have X7 := Lib.hid x7; clear hn x7
  go_wp2_with fail
  refine (solves_lit none 0 0 _ 1 1 _ 3 3 [] [0] [0, 1, 1] true 0 (by decide +kernel) ((HN.out.keep (Keeps.alloc _ _)).keep (Keeps.alloc _ _)) (Sl.nil _ _) ((Sl.newAt _ _ [I 0] _ rfl).keep (Keeps.alloc _ _)) (Sl.newAt _ _ [I 0, I 1, I 1] _ (by simp)) (by omega) (by omega) (by omega)).mono ?_
  rintro e w8 ⟨rfl, x8⟩
  have hk := ((X7.out.alloc _).alloc _).trans x8
  have hx := X6.out.trans hk
  have S1' := Lib.hid (S1.out.keep hk.keeps); have S2 := Lib.hid (S2'.out.keep hk.keeps); have S3' := Lib.hid (S3.out.keep hk.keeps); have X8 := Lib.hid hx; clear hx hk x8 HN X7 X6 S1 S2' S3
  go_wp2_with fail
  refine (loose_ok w8).mono ?_; rintro e w9 ⟨n5, rfl, hn, x9⟩
  have HN := Lib.hid hn; have X9 := Lib.hid x9; clear hn x9
  go_wp2_with fail
  refine (solves_lit none 0 0 _ 1 1 _ 3 3 [] [0] [0, 1, 0] false 0 (by decide +kernel) ((HN.out.keep (Keeps.alloc _ _)).keep (Keeps.alloc _ _)) (Sl.nil _ _) ((Sl.newAt _ _ [I 0] _ rfl).keep (Keeps.alloc _ _)) (Sl.newAt _ _ [I 0, I 1, I 0] _ (by simp)) (by omega) (by omega) (by omega)).mono ?_
  rintro e wa ⟨rfl, xa⟩
  have hk := ((X9.out.alloc _).alloc _).trans xa
  have hx := X8.out.trans hk
  have S1 := Lib.hid (S1'.out.keep hk.keeps); have S2' := Lib.hid (S2.out.keep hk.keeps); have S3 := Lib.hid (S3'.out.keep hk.keeps); have XA := Lib.hid hx; clear hx hk xa HN X9 X8 S1' S2 S3'
  go_wp2_with fail
  refine (knot_ok wa).mono ?_; rintro e wb ⟨n6, rfl, hn, xb⟩
  have HN := Lib.hid hn; have XB := Lib.hid xb; clear hn xb
  go_wp2_with fail
  refine (step_lit none 0 0 _ 1 1 [] [1] [] 1 0 rfl (by decide +kernel) (HN.out.keep (Keeps.alloc _ _)) (Sl.nil _ _) (Sl.newAt _ _ [I 1] _ rfl) (by omega) (by omega)).mono ?_
  rintro e wc ⟨A6, c6, rfl, -, xc⟩
  have hk := (XB.out.alloc _).trans xc
  have hx := XA.out.trans hk
  have S1' := Lib.hid (S1.out.keep hk.keeps); have S2 := Lib.hid (S2'.out.keep hk.keeps); have S3' := Lib.hid (S3.out.keep hk.keeps); have XC := Lib.hid hx; clear hx hk xc HN XA XB S1 S2' S3
  go_wp2_with fail
  refine (same_lit _ _ 10 _ _ [1, 0, 1, 0, 1, 0, 1, 1, 0, 0] _ (S1'.out.keep (Keeps.alloc _ _)) (Sl.newAt _ _ [I 1, I 0, I 1, I 0, I 1, I 0, I 1, I 1, I 0, I 0] _ rfl) (by omega)).mono ?_; rintro e wd ⟨rfl, xd⟩
  have hk := ((Ext.refl wc).alloc _).trans xd
  have S2' := Lib.hid (S2.out.keep hk.keeps); have S3 := Lib.hid (S3'.out.keep hk.keeps); have XD := Lib.hid (XC.out.trans hk); clear hk xd XC S1' S2 S3'
  go_wp2_with fail
  refine (same_lit _ _ 3 _ _ [0, 2, 2] _ (S2'.out.keep (Keeps.alloc _ _)) (Sl.newAt _ _ [I 0, I 2, I 2] _ rfl) (by omega)).mono ?_; rintro e we ⟨rfl, xe⟩
  have hk := ((Ext.refl wd).alloc _).trans xe
  have S3' := Lib.hid (S3.out.keep hk.keeps); have XE := Lib.hid (XD.out.trans hk); clear hk xe XD S2' S3
  go_wp2_with fail
  refine (same_lit _ _ 3 _ _ [1, 1, 1] _ (S3'.out.keep (Keeps.alloc _ _)) (Sl.newAt _ _ [I 1, I 1, I 1] _ rfl) (by omega)).mono ?_; rintro e wf ⟨rfl, xf⟩
  go_wp2
  go_ret
  exact ⟨rfl, (XE.out.alloc _).trans xf⟩
end Go.Proofs.Ytjagbnaacfhokaa
