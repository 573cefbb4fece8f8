/- What must be in any case of tick. -/
import Derived.Test.YtjagbnaacfhokaaTickRun
import Derived.Test.YtjagbnaacfhokaaTickRows
import Derived.Test.YtjagbnaacfhokaaEvalBegun
namespace Go.Proofs.Ytjagbnaacfhokaa
set_option linter.unusedVariables false
set_option linter.unusedSimpArgs false
open Go.RowKit

theorem SlRows.new3 (w : World) (b : Nat) (hb : b = w.heap.size) (A1 A2 A3 : Option Addr) (n1 n2 n3 c1 c2 c3 : Nat) (r1 r2 r3 : List Int) (t : TypeId) (h1 : Sl w A1 n1 (r1.map I)) (h2 : Sl w A2 n2 (r2.map I)) (h3 : Sl w A3 n3 (r3.map I)) (m1 : n1 ≤ c1 ∧ c1 ≤ 1000) (m2 : n2 ≤ c2 ∧ c2 ≤ 1000) (m3 : n3 ≤ c3 ∧ c3 ≤ 1000) :
    SlRows (w.alloc (.cells #[.slice A1 n1 c1, .slice A2 n2 c2, .slice A3 n3 c3] t)) (some ⟨b, 0, none⟩) 3 [r1, r2, r3] := by
  subst hb
  have k := fun n h => @ml_small n h
  have l1 : r1.length = n1 := h1.len
  have l2 : r2.length = n2 := h2.len
  have l3 : r3.length = n3 := h3.len
  subst l1; subst l2; subst l3
  have cell : ∀ (j : Nat) (v : Value), #[Value.slice A1 r1.length c1, .slice A2 r2.length c2, .slice A3 r3.length c3][j]? = some v → (w.alloc (.cells #[.slice A1 r1.length c1, .slice A2 r2.length c2, .slice A3 r3.length c3] t)).cell? ⟨w.heap.size, 0 + j, none⟩ = some v := fun j v h => by
    rw [Nat.zero_add, World.cell?_alloc_new]; exact h
  refine ⟨rfl, fun j r hr => ?_⟩
  rcases j with _ | _ | _ | j
  · injection hr with e; subst e
    exact ⟨_, 0, A1, c1, rfl, cell 0 _ rfl, h1.keep (Keeps.alloc _ _), m1.1, k _ m1.2⟩
  · injection hr with e; subst e
    exact ⟨_, 0, A2, c2, rfl, cell 1 _ rfl, h2.keep (Keeps.alloc _ _), m2.1, k _ m2.2⟩
  · injection hr with e; subst e
    exact ⟨_, 0, A3, c3, rfl, cell 2 _ rfl, h3.keep (Keeps.alloc _ _), m3.1, k _ m3.2⟩
  · simp at hr

section
variable {i : Int} {GA : Option Addr} {gn gc : Nat} {RA : Option Addr} {rn rc : Nat} {OA : Option Addr} {on oc : Nat} {N : NetM} {w : World}
theorem do_lit (RB : Option Addr) (pn pc : Nat) (IA : Option Addr) (jn jc : Nat) (regs ins vo vn : List Int) (x : Int) (n m : Nat) (hn : vo.length = n) (hm : vn.length = m) (hE : doE N regs ins = x) (hQ : doQ N regs ins = (vo, vn)) (h : NetC w i GA gn gc RA rn rc OA on oc N) (hr : Sl w RB pn (regs.map I)) (hi : Sl w IA jn (ins.map I)) (hpm : pn ≤ 1000) (hjm : jn ≤ 1000) :
    Calls Try.prog 54 #[netV i GA gn gc RA rn rc OA on oc, .slice RB pn pc, .slice IA jn jc] w fun e w' => ∃ A c B d, e = .returned (Pr3 (.slice A n c) (.slice B m d) (I x)) ∧ Sl w' A n (vo.map I) ∧ Sl w' B m (vn.map I) ∧ Ext w w' :=
  (do_any i GA gn gc RA rn rc OA on oc N RB pn pc IA jn jc regs ins w h hr hi (ml_small hpm) (ml_small hjm)).mono fun e w' ⟨v, u, he, h1, h2, hx⟩ => by
    rw [hE] at he
    rw [hQ] at h1 h2
    obtain ⟨A, c, rfl, -, -, hs⟩ := own_sl h1
    obtain ⟨B, d, rfl, -, -, hs'⟩ := own_sl h2
    rw [hn] at he hs; rw [hm] at he hs'
    exact ⟨A, c, B, d, he, hs, hs', hx⟩
theorem run_lit (A : Option Addr) (n c : Nat) (l : List Int) (rows : List (List Int)) (vn : List Int) (x : Int) (k m : Nat) (hn : rows.length = k) (hm : vn.length = m) (hE : runE N l = x) (hQ : runV N l = (rows, vn)) (h : NetC w i GA gn gc RA rn rc OA on oc N) (hl : Sl w A n (l.map I)) (hnm : n ≤ 1000) :
    Calls Try.prog 57 #[netV i GA gn gc RA rn rc OA on oc, .slice A n c] w fun e w' => ∃ A c B d, e = .returned (Pr3 (.slice A k c) (.slice B m d) (I x)) ∧ SlRows w' A k rows ∧ Sl w' B m (vn.map I) ∧ Ext w w' :=
  (run_any i GA gn gc RA rn rc OA on oc N A n c l w h hl (ml_small hnm)).mono fun e w' ⟨v, u, vs, he, h1, h2, hx⟩ => by
    rw [hE] at he
    rw [hQ] at h1 h2
    obtain ⟨A, c, rfl, -, -, hs⟩ := h1.slice
    obtain ⟨B, d, rfl, -, -, hs'⟩ := own_sl h2
    have hn' : (rows, vn).1.length = k := hn
    rw [hn'] at he hs; rw [hm] at he hs'
    exact ⟨A, c, B, d, he, hs, hs', hx⟩
theorem rows_lit (A B : Option Addr) (n c d : Nat) (xs : List (List Int)) (Q : World) (h : SlRows Q A n xs) (h' : SlRows Q B n xs) (hn : n ≤ 1000) : Calls Try.prog 51 #[.slice A n c, .slice B n d] Q fun e w' => e = .returned (.bool true) ∧ Ext Q w' :=
  (sameRows_any A B n n c d xs xs Q h h' (ml_small hn) (ml_small hn)).mono fun e w' ⟨he, hx⟩ => ⟨by rw [he]; simp, hx⟩
end

set_option maxRecDepth 100000 in
set_option maxHeartbeats 8000000 in
theorem tickBegun_any (w : World) : Calls Try.prog 56 #[] w fun e w' => e = .returned (.bool true) ∧ Ext w w' := by
  go_enter Try.func56, Try.ntmps56
  go_wp2_with fail
  refine (knot_ok w).mono ?_; rintro e w1 ⟨n1, rfl, hn, x1⟩
  have HN := Lib.hid hn; have X := Lib.hid x1; clear hn x1
  go_wp2_with fail
  refine (do_lit _ 1 1 _ 1 1 [1] [1] [0, 1] [0] 0 2 1 rfl rfl (by decide +kernel) (by decide +kernel) ((HN.out.keep (Keeps.alloc _ _)).keep (Keeps.alloc _ _)) ((Sl.newAt _ _ [I 1] _ rfl).keep (Keeps.alloc _ _)) (Sl.newAt _ _ [I 1] _ (by simp)) (by omega) (by omega)).mono ?_
  rintro e w2 ⟨A1', c1, B1, d1, rfl, hs1, hs2, x2⟩
  have hx := ((X.out.alloc _).alloc _).trans x2
  have SA := Lib.hid hs1; have SB := Lib.hid hs2; have X2 := Lib.hid hx; clear hs1 hs2 hx x2 HN X
  go_wp2_with fail
  refine (loose_ok w2).mono ?_; rintro e w3 ⟨n2, rfl, hn, x3⟩
  have HN := Lib.hid hn; have X3 := Lib.hid x3; clear hn x3
  go_wp2_with fail
  refine (do_lit none 0 0 _ 1 1 [] [0] [] [] 6 0 0 rfl rfl (by decide +kernel) (by decide +kernel) (HN.out.keep (Keeps.alloc _ _)) (Sl.nil _ _) (Sl.newAt _ _ [I 0] _ rfl) (by omega) (by omega)).mono ?_
  rintro e w4 ⟨A2, c2, B2, d2, rfl, -, -, x4⟩
  have hk := (X3.out.alloc _).trans x4
  have hx := X2.out.trans hk
  have SA' := Lib.hid (SA.out.keep hk.keeps); have SB' := Lib.hid (SB.out.keep hk.keeps); have X4 := Lib.hid hx; clear hx hk x4 HN X3 X2 SA SB
  go_wp2_with fail
  refine (knot_ok w4).mono ?_; rintro e w5 ⟨n3, rfl, hn, x5⟩
  have HN := Lib.hid hn; have X5 := Lib.hid x5; clear hn x5
  go_wp2_with fail
  refine (run_lit _ 3 3 [1, 0, 1] [[1, 0], [1, 1], [0, 1]] [0] 0 3 1 rfl rfl (by decide +kernel) (by decide +kernel) (HN.out.keep (Keeps.alloc _ _)) (Sl.newAt _ _ [I 1, I 0, I 1] _ rfl) (by omega)).mono ?_
  rintro e w6 ⟨A3, c3, B3, d3, rfl, hs3, hs4, x6⟩
  have hk := (X5.out.alloc _).trans x6
  have hx := X4.out.trans hk
  have SL := Lib.hid hs3; have SR := Lib.hid hs4; have SA := Lib.hid (SA'.out.keep hk.keeps); have SB := Lib.hid (SB'.out.keep hk.keeps); have X6 := Lib.hid hx; clear hs3 hs4 hx hk x6 HN X5 X4 SA' SB'
  go_wp2_with fail
  refine (knot_ok w6).mono ?_; rintro e w7 ⟨n4, rfl, hn, x7⟩
  have HN := Lib.hid hn; have X7 := Lib.hid x7; clear hn x7
  go_wp2_with fail
  refine (run_lit _ 1 1 [2] [] [] 3 0 0 rfl rfl (by decide +kernel) (by decide +kernel) (HN.out.keep (Keeps.alloc _ _)) (Sl.newAt _ _ [I 2] _ rfl) (by omega)).mono ?_
  rintro e w8 ⟨A4, c4, B4, d4, rfl, -, -, x8⟩
  have hk := (X7.out.alloc _).trans x8
  have hx := X6.out.trans hk
  have SL' := Lib.hid (SL.out.keep hk.keeps); have SR' := Lib.hid (SR.out.keep hk.keeps); have SA' := Lib.hid (SA.out.keep hk.keeps); have SB' := Lib.hid (SB.out.keep hk.keeps); have X8 := Lib.hid hx; clear hx hk x8 HN X7 X6 SL SR SA SB
  go_wp2_with fail
  refine (loose_ok w8).mono ?_; rintro e w9 ⟨n5, rfl, hn, x9⟩
  have HN := Lib.hid hn; have X9 := Lib.hid x9; clear hn x9
  go_wp2_with fail
  refine (run_lit _ 2 2 [1, 0] [] [] 6 0 0 rfl rfl (by decide +kernel) (by decide +kernel) (HN.out.keep (Keeps.alloc _ _)) (Sl.newAt _ _ [I 1, I 0] _ rfl) (by omega)).mono ?_
  rintro e wa ⟨A5, c5, B5, d5, rfl, -, -, xa⟩
  have hk := (X9.out.alloc _).trans xa
  have hx := X8.out.trans hk
  have SL := Lib.hid (SL'.out.keep hk.keeps); have SR := Lib.hid (SR'.out.keep hk.keeps); have SA := Lib.hid (SA'.out.keep hk.keeps); have SB := Lib.hid (SB'.out.keep hk.keeps); have XA := Lib.hid hx; clear hx hk xa HN X9 X8 SL' SR' SA' SB'
  go_wp2_with fail
  refine (same_lit _ _ 2 _ _ [0, 1] _ (SA.out.keep (Keeps.alloc _ _)) (Sl.newAt _ _ [I 0, I 1] _ rfl) (by omega)).mono ?_; rintro e wb ⟨rfl, xb⟩
  have hk := ((Ext.refl wa).alloc _).trans xb
  have SL' := Lib.hid (SL.out.keep hk.keeps); have SR' := Lib.hid (SR.out.keep hk.keeps); have SB' := Lib.hid (SB.out.keep hk.keeps); have XB := Lib.hid (XA.out.trans hk); clear hk xb XA SL SR SA SB
  go_wp2_with fail
  refine (same_lit _ _ 1 _ _ [0] _ (SB'.out.keep (Keeps.alloc _ _)) (Sl.newAt _ _ [I 0] _ rfl) (by omega)).mono ?_; rintro e wc ⟨rfl, xc⟩
  have hk := ((Ext.refl wb).alloc _).trans xc
  have SL := Lib.hid (SL'.out.keep hk.keeps); have SR := Lib.hid (SR'.out.keep hk.keeps); have XC := Lib.hid (XB.out.trans hk); clear hk xc XB SL' SR' SB'
  go_wp2_with fail
  refine (rows_lit _ _ 3 _ _ [[1, 0], [1, 1], [0, 1]] _ (SL.out.keep (((Keeps.alloc _ _).trans (Keeps.alloc _ _)).trans ((Keeps.alloc _ _).trans (Keeps.alloc _ _)))) (SlRows.new3 _ _ (by simp) _ _ _ 2 2 2 2 2 2 [1, 0] [1, 1] [0, 1] _ ((Sl.newAt _ _ [I 1, I 0] _ rfl).keep ((Keeps.alloc _ _).trans (Keeps.alloc _ _))) ((Sl.newAt _ _ [I 1, I 1] _ (by simp)).keep (Keeps.alloc _ _)) (Sl.newAt _ _ [I 0, I 1] _ (by simp)) (by omega) (by omega) (by omega)) (by omega)).mono ?_; rintro e wd ⟨rfl, xd⟩
  have hk := (((((Ext.refl wc).alloc _).alloc _).alloc _).alloc _).trans xd
  have SR' := Lib.hid (SR.out.keep hk.keeps); have XD := Lib.hid (XC.out.trans hk); clear hk xd XC SL SR
  go_wp2_with fail
  refine (same_lit _ _ 1 _ _ [0] _ (SR'.out.keep (Keeps.alloc _ _)) (Sl.newAt _ _ [I 0] _ rfl) (by omega)).mono ?_; rintro e we ⟨rfl, xe⟩
  go_wp2
  go_ret
  exact ⟨rfl, (XD.out.alloc _).trans xe⟩
end Go.Proofs.Ytjagbnaacfhokaa
