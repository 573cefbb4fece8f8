/- What must be in any case of level. -/
import Derived.Test.YtjagbnaacfhokaaTied
import Derived.Test.YtjagbnaacfhokaaEvalBegun
import Derived.Test.YtjagbnaacfhokaaLevelStep
namespace Go.Proofs.Ytjagbnaacfhokaa
set_option linter.unusedVariables false
set_option linter.unusedSimpArgs false
open Go.RowKit

section
variable {i : Int} {GA : Option Addr} {gn gc : Nat} {RA : Option Addr} {rn rc : Nat} {OA : Option Addr} {on oc : Nat} {N : NetM} {w : World}
theorem order_lit (vs : List Int) (x : Int) (n : Nat) (hn : vs.length = n) (hM : orderV N = (vs, x)) (h : NetC w i GA gn gc RA rn rc OA on oc N) :
    Calls Try.prog 36 #[netV i GA gn gc RA rn rc OA on oc] w fun e w' => ∃ A c, e = .returned (Pr (.slice A n c) (I x)) ∧ Sl w' A n (vs.map I) ∧ Ext w w' :=
  (order_any i GA gn gc RA rn rc OA on oc N w h).mono fun e w' ⟨v, he, hown, hx⟩ => by
    rw [hM] at he hown
    obtain ⟨A, c, rfl, -, -, hs⟩ := own_sl hown
    rw [hn] at he hs
    exact ⟨A, c, he, hs, hx⟩
theorem level_lit (RB : Option Addr) (pn pc : Nat) (IA : Option Addr) (jn jc : Nat) (regs ins vs : List Int) (x : Int) (n : Nat) (hn : vs.length = n) (hM : levelV N regs ins = (vs, x)) (h : NetC w i GA gn gc RA rn rc OA on oc N) (hr : Sl w RB pn (regs.map I)) (hi : Sl w IA jn (ins.map I)) (hpm : pn ≤ 1000) (hjm : jn ≤ 1000) :
    Calls Try.prog 39 #[netV i GA gn gc RA rn rc OA on oc, .slice RB pn pc, .slice IA jn jc] w fun e w' => ∃ A c, e = .returned (Pr (.slice A n c) (I x)) ∧ Sl w' A n (vs.map I) ∧ Ext w w' :=
  (levelStep_any i GA gn gc RA rn rc OA on oc N RB pn pc IA jn jc regs ins w h hr hi (ml_small hpm) (ml_small hjm)).mono fun e w' ⟨v, he, hown, hx⟩ => by
    rw [hM] at he hown
    obtain ⟨A, c, rfl, -, -, hs⟩ := own_sl hown
    rw [hn] at he hs
    exact ⟨A, c, he, hs, hx⟩
end
set_option maxRecDepth 100000 in
set_option maxHeartbeats 8000000 in
theorem levelBegun_any (w : World) : Calls Try.prog 38 #[] w fun e w' => e = .returned (.bool true) ∧ Ext w w' := by
  have tc := tied_cell w; have tf := tied_free w
  unfold tied0 knotBox at tc tf
  have hE := tied_set w
  unfold tied0 knotBox at hE
  have HE := Lib.hid hE; clear hE
  have hks := Lib.hid (knotW_size w)
  go_enter Try.func38, Try.ntmps38
  go_wp2_with fail
  refine (knot_any w).mono ?_; rintro e w0 ⟨rfl, rfl⟩
  go_wp2_with fail
  rw [hks.out, show w.heap.size + 11 + 1 = w.heap.size + 12 from rfl, HE.out]
  clear tc tf HE hks
  have HC := Lib.hid (tiedC w); have HB := Lib.hid (tiedBox w); have X0 := Lib.hid (tiedW_ext w)
  generalize tiedW w = wt at *
  refine (order_lit [0, 1, 2, 3, 4, 5, 6, 9, 8, 7] 0 10 rfl (by decide +kernel) HC.out).mono ?_; rintro e w2 ⟨A1', c1, rfl, hs, x2⟩
  have S1 := Lib.hid hs; have X2 := Lib.hid (X0.out.trans x2); have XT2 := Lib.hid x2; clear hs x2
  go_wp2_with fail
  refine (knot_ok w2).mono ?_; rintro e w3 ⟨n3, rfl, hn, x3⟩
  have HN := Lib.hid hn; have XT3 := Lib.hid (XT2.out.trans x3); have S3 := Lib.hid (S1.out.keep x3.keeps); clear hn x3 XT2 S1
  go_wp2_with fail
  refine (order_lit [] 5 0 rfl (by decide +kernel) HN.out).mono ?_; rintro e w4 ⟨A4, c4, rfl, -, x4⟩
  have XT4 := Lib.hid (XT3.out.trans x4); have S4 := Lib.hid (S3.out.keep x4.keeps); clear x4 XT3 S3 HN
  obtain ⟨b0, b1, b2, b3⟩ := HB.out.keep XT4.out.keeps
  go_wp2_with fail
  refine (level_lit _ 1 1 _ 1 1 [0] [1] [1, 0, 1, 0, 1, 0, 1, 1, 0, 0] 0 10 rfl (by decide +kernel) (HC.out.keep (((XT4.out.alloc _).alloc _).keeps)) ((Sl.newAt _ _ [I 0] _ rfl).keep (Keeps.alloc _ _)) (Sl.newAt _ _ [I 1] _ (by simp)) (by omega) (by omega)).mono ?_
  rintro e w5 ⟨A5, c5, rfl, hs, x5⟩
  have hk := ((((Ext.refl w4).alloc _).alloc _).trans x5)
  have XT5 := Lib.hid (XT4.out.trans hk); have S5 := Lib.hid (S4.out.keep hk.keeps); have V5 := Lib.hid hs; clear hs x5 hk XT4 S4 b0 b1 b2 b3
  go_wp2_with fail
  refine (knot_ok w5).mono ?_; rintro e w6 ⟨n6, rfl, hn, x6⟩
  have HN := Lib.hid hn; have XT6 := Lib.hid (XT5.out.trans x6); have S6 := Lib.hid (S5.out.keep x6.keeps); have V6 := Lib.hid (V5.out.keep x6.keeps); clear hn x6 XT5 S5 V5
  go_wp2_with fail
  refine (level_lit _ 1 1 _ 1 1 [0] [1] [] 5 0 rfl (by decide +kernel) ((HN.out.keep (Keeps.alloc _ _)).keep (Keeps.alloc _ _)) ((Sl.newAt _ _ [I 0] _ rfl).keep (Keeps.alloc _ _)) (Sl.newAt _ _ [I 1] _ (by simp)) (by omega) (by omega)).mono ?_
  rintro e w7 ⟨A7', c7, rfl, -, x7⟩
  have hk := ((((Ext.refl w6).alloc _).alloc _).trans x7)
  have XT7 := Lib.hid (XT6.out.trans hk); have S7 := Lib.hid (S6.out.keep hk.keeps); have V7 := Lib.hid (V6.out.keep hk.keeps); clear x7 hk XT6 S6 V6 HN
  go_wp2_with fail
  refine (same_lit _ _ 10 _ _ [0, 1, 2, 3, 4, 5, 6, 9, 8, 7] _ (S7.out.keep (Keeps.alloc _ _)) (Sl.newAt _ _ [I 0, I 1, I 2, I 3, I 4, I 5, I 6, I 9, I 8, I 7] _ rfl) (by omega)).mono ?_; rintro e w8 ⟨rfl, x8⟩
  have hk := ((Ext.refl w7).alloc _).trans x8
  have XT8 := Lib.hid (XT7.out.trans hk); have V8 := Lib.hid (V7.out.keep hk.keeps); clear x8 hk XT7 V7 S7
  go_wp2_with fail
  refine (same_lit _ _ 10 _ _ [1, 0, 1, 0, 1, 0, 1, 1, 0, 0] _ (V8.out.keep (Keeps.alloc _ _)) (Sl.newAt _ _ [I 1, I 0, I 1, I 0, I 1, I 0, I 1, I 1, I 0, I 0] _ rfl) (by omega)).mono ?_; rintro e w9 ⟨rfl, x9⟩
  go_wp2
  go_ret
  exact ⟨rfl, X0.out.trans ((XT8.out.alloc _).trans x9)⟩
end Go.Proofs.Ytjagbnaacfhokaa
