/- What must be in any case of eval. -/
import Derived.Test.YtjagbnaacfhokaaSw19
import Derived.Test.YtjagbnaacfhokaaSw13
import Derived.Test.YtjagbnaacfhokaaSw16
import Derived.Test.YtjagbnaacfhokaaSw15
namespace Go.Proofs.Ytjagbnaacfhokaa
set_option linter.unusedVariables false
set_option linter.unusedSimpArgs false
open Go.RowKit

section
variable {i : Int} {GA : Option Addr} {gn gc : Nat} {RA : Option Addr} {rn rc : Nat} {OA : Option Addr} {on oc : Nat} {N : NetM} {w : World}
/-- Step of what is known. -/
theorem step_lit (RB : Option Addr) (pn pc : Nat) (IA : Option Addr) (jn jc : Nat) (regs ins vs : List Int) (x : Int) (n : Nat) (hn : vs.length = n) (hM : stepV N regs ins = (vs, x)) (h : NetC w i GA gn gc RA rn rc OA on oc N) (hr : Sl w RB pn (regs.map I)) (hi : Sl w IA jn (ins.map I)) (hpm : pn ≤ 1000) (hjm : jn ≤ 1000) :
    Calls Try.prog 30 #[netV i GA gn gc RA rn rc OA on oc, .slice RB pn pc, .slice IA jn jc] w fun e w' => ∃ A c, e = .returned (Pr (.slice A n c) (I x)) ∧ Sl w' A n (vs.map I) ∧ Ext w w' :=
  (evalStep_any i GA gn gc RA rn rc OA on oc N RB pn pc IA jn jc regs ins w h hr hi (ml_small hpm) (ml_small hjm)).mono fun e w' ⟨v, he, hown, hx⟩ => by
    rw [hM] at he hown
    obtain ⟨A, c, rfl, -, -, hs⟩ := own_sl hown
    rw [hn] at he hs
    exact ⟨A, c, he, hs, hx⟩
theorem solves_lit (RB : Option Addr) (pn pc : Nat) (IA : Option Addr) (jn jc : Nat) (VA : Option Addr) (vn vc : Nat) (regs ins v : List Int) (b : Bool) (x : Int) (hM : solvesV N regs ins v = (b, x)) (h : NetC w i GA gn gc RA rn rc OA on oc N) (hr : Sl w RB pn (regs.map I)) (hi : Sl w IA jn (ins.map I)) (hv : Sl w VA vn (v.map I)) (hpm : pn ≤ 1000) (hjm : jn ≤ 1000) (hvm : vn ≤ 1000) :
    Calls Try.prog 34 #[netV i GA gn gc RA rn rc OA on oc, .slice RB pn pc, .slice IA jn jc, .slice VA vn vc] w fun e w' => e = .returned (Pr (Bv b) (I x)) ∧ Ext w w' :=
  (evalSolves_any i GA gn gc RA rn rc OA on oc N RB pn pc IA jn jc VA vn vc regs ins v w h hr hi hv (ml_small hpm) (ml_small hjm) (ml_small hvm)).mono fun e w' ⟨he, hx⟩ => by
    rw [hM] at he; exact ⟨he, hx⟩
theorem same_lit (A B : Option Addr) (n c d : Nat) (xs : List Int) (Q : World) (h : Sl Q A n (xs.map I)) (h' : Sl Q B n (xs.map I)) (hn : n ≤ 1000) : Calls Try.prog 33 #[.slice A n c, .slice B n d] Q fun e w' => e = .returned (.bool true) ∧ Ext Q w' :=
  (sameInts_any A B n n c d xs xs Q h h' (ml_small hn) (ml_small hn)).mono fun e w' ⟨he, m, hm⟩ => ⟨by rw [he]; simp, by rw [hm]; exact (Ext.refl Q).drewN m⟩
end

set_option maxRecDepth 100000 in
set_option maxHeartbeats 8000000 in
theorem evalBegun_any (w : World) : Calls Try.prog 32 #[] w fun e w' => e = .returned (.bool true) ∧ Ext w w' := by
  go_enter Try.func32, Try.ntmps32
  go_wp2_with fail
  refine (knot_ok w).mono ?_; rintro e w1 ⟨n1, rfl, hn, x1⟩
  have HN := Lib.hid hn; have X := Lib.hid x1; clear hn x1
  go_wp2_with fail
  refine (step_lit _ 1 1 _ 1 1 [0] [1] [1, 0, 1, 0, 1, 0, 1, 1, 0, 0] 0 10 rfl (by decide +kernel) ((HN.out.keep (Keeps.alloc _ _)).keep (Keeps.alloc _ _)) ((Sl.newAt _ _ [I 0] _ rfl).keep (Keeps.alloc _ _)) (Sl.newAt _ _ [I 1] _ (by simp)) (by omega) (by omega)).mono ?_
  rintro e w2 ⟨A1', c1, rfl, hs, x2⟩
  have hx := ((X.out.alloc _).alloc _).trans x2
  have S1 := Lib.hid hs; have X2 := Lib.hid hx; clear hs hx x2 HN X
  go_wp2_with fail
  refine (loose_ok w2).mono ?_; rintro e w3 ⟨n2, rfl, hn, x3⟩
  have HN := Lib.hid hn; have X3 := Lib.hid x3; clear hn x3
  go_wp2_with fail
  refine (step_lit none 0 0 _ 1 1 [] [0] [0, 2, 2] 0 3 rfl (by decide +kernel) (HN.out.keep (Keeps.alloc _ _)) (Sl.nil _ _) (Sl.newAt _ _ [I 0] _ rfl) (by omega) (by omega)).mono ?_
  rintro e w4 ⟨A2, c2, rfl, hs, x4⟩
  have hk := (X3.out.alloc _).trans x4
  have hx := X2.out.trans hk
  have S2 := Lib.hid hs; have S1' := Lib.hid (S1.out.keep hk.keeps); have X4 := Lib.hid hx; clear hs hx hk x4 HN X3 X2 S1
  go_wp2_with fail
  refine (loose_ok w4).mono ?_; rintro e w5 ⟨n3, rfl, hn, x5⟩
  have HN := Lib.hid hn; have X5 := Lib.hid x5; clear hn x5
  go_wp2_with fail
  refine (step_lit none 0 0 _ 1 1 [] [1] [1, 1, 1] 0 3 rfl (by decide +kernel) (HN.out.keep (Keeps.alloc _ _)) (Sl.nil _ _) (Sl.newAt _ _ [I 1] _ rfl) (by omega) (by omega)).mono ?_
  rintro e w6 ⟨A3, c3, rfl, hs, x6⟩
  have hk := (X5.out.alloc _).trans x6
  have hx := X4.out.trans hk
  have S3 := Lib.hid hs; have S1 := Lib.hid (S1'.out.keep hk.keeps); have S2' := Lib.hid (S2.out.keep hk.keeps); have X6 := Lib.hid hx; clear hs hx hk x6 HN X5 X4 S1' S2
  go_wp2_with fail
  refine (loose_ok w6).mono ?_; rintro e w7 ⟨n4, rfl, hn, x7⟩
  have HN := Lib.hid hn; have X7 := Lib.hid x7; clear hn x7
  go_wp2_with fail
  refine (solves_lit none 0 0 _ 1 1 _ 3 3 [] [0] [0, 1, 1] true 0 (by decide +kernel) ((HN.out.keep (Keeps.alloc _ _)).keep (Keeps.alloc _ _)) (Sl.nil _ _) ((Sl.newAt _ _ [I 0] _ rfl).keep (Keeps.alloc _ _)) (Sl.newAt _ _ [I 0, I 1, I 1] _ (by simp)) (by omega) (by omega) (by omega)).mono ?_
  rintro e w8 ⟨rfl, x8⟩
  have hk := ((X7.out.alloc _).alloc _).trans x8
  have hx := X6.out.trans hk
  have S1' := Lib.hid (S1.out.keep hk.keeps); have S2 := Lib.hid (S2'.out.keep hk.keeps); have S3' := Lib.hid (S3.out.keep hk.keeps); have X8 := Lib.hid hx; clear hx hk x8 HN X7 X6 S1 S2' S3
  go_wp2_with fail
  refine (loose_ok w8).mono ?_; rintro e w9 ⟨n5, rfl, hn, x9⟩
  have HN := Lib.hid hn; have X9 := Lib.hid x9; clear hn x9
  go_wp2_with fail
  refine (solves_lit none 0 0 _ 1 1 _ 3 3 [] [0] [0, 1, 0] false 0 (by decide +kernel) ((HN.out.keep (Keeps.alloc _ _)).keep (Keeps.alloc _ _)) (Sl.nil _ _) ((Sl.newAt _ _ [I 0] _ rfl).keep (Keeps.alloc _ _)) (Sl.newAt _ _ [I 0, I 1, I 0] _ (by simp)) (by omega) (by omega) (by omega)).mono ?_
  rintro e wa ⟨rfl, xa⟩
  have hk := ((X9.out.alloc _).alloc _).trans xa
  have hx := X8.out.trans hk
  have S1 := Lib.hid (S1'.out.keep hk.keeps); have S2' := Lib.hid (S2.out.keep hk.keeps); have S3 := Lib.hid (S3'.out.keep hk.keeps); have XA := Lib.hid hx; clear hx hk xa HN X9 X8 S1' S2 S3'
  go_wp2_with fail
  refine (knot_ok wa).mono ?_; rintro e wb ⟨n6, rfl, hn, xb⟩
  have HN := Lib.hid hn; have XB := Lib.hid xb; clear hn xb
  go_wp2_with fail
  refine (step_lit none 0 0 _ 1 1 [] [1] [] 1 0 rfl (by decide +kernel) (HN.out.keep (Keeps.alloc _ _)) (Sl.nil _ _) (Sl.newAt _ _ [I 1] _ rfl) (by omega) (by omega)).mono ?_
  rintro e wc ⟨A6, c6, rfl, -, xc⟩
  have hk := (XB.out.alloc _).trans xc
  have hx := XA.out.trans hk
  have S1' := Lib.hid (S1.out.keep hk.keeps); have S2 := Lib.hid (S2'.out.keep hk.keeps); have S3' := Lib.hid (S3.out.keep hk.keeps); have XC := Lib.hid hx; clear hx hk xc HN XA XB S1 S2' S3
  go_wp2_with fail
  refine (same_lit _ _ 10 _ _ [1, 0, 1, 0, 1, 0, 1, 1, 0, 0] _ (S1'.out.keep (Keeps.alloc _ _)) (Sl.newAt _ _ [I 1, I 0, I 1, I 0, I 1, I 0, I 1, I 1, I 0, I 0] _ rfl) (by omega)).mono ?_; rintro e wd ⟨rfl, xd⟩
  have hk := ((Ext.refl wc).alloc _).trans xd
  have S2' := Lib.hid (S2.out.keep hk.keeps); have S3 := Lib.hid (S3'.out.keep hk.keeps); have XD := Lib.hid (XC.out.trans hk); clear hk xd XC S1' S2 S3'
  go_wp2_with fail
  refine (same_lit _ _ 3 _ _ [0, 2, 2] _ (S2'.out.keep (Keeps.alloc _ _)) (Sl.newAt _ _ [I 0, I 2, I 2] _ rfl) (by omega)).mono ?_; rintro e we ⟨rfl, xe⟩
  have hk := ((Ext.refl wd).alloc _).trans xe
  have S3' := Lib.hid (S3.out.keep hk.keeps); have XE := Lib.hid (XD.out.trans hk); clear hk xe XD S2' S3
  go_wp2_with fail
  refine (same_lit _ _ 3 _ _ [1, 1, 1] _ (S3'.out.keep (Keeps.alloc _ _)) (Sl.newAt _ _ [I 1, I 1, I 1] _ rfl) (by omega)).mono ?_; rintro e wf ⟨rfl, xf⟩
  go_wp2
  go_ret
  exact ⟨rfl, (XE.out.alloc _).trans xf⟩
end Go.Proofs.Ytjagbnaacfhokaa
/- What must be in any case of sweep. -/
namespace Go.Proofs.Ytjagbnaacfhokaa
set_option linter.unusedVariables false
set_option linter.unusedSimpArgs false
open Go.RowKit

set_option maxRecDepth 100000 in
set_option maxHeartbeats 8000000 in
theorem sweepBegun_any (w : World) : Calls Try.prog 64 #[] w fun e w' => e = .returned (.bool true) ∧ Ext w w' := by
  go_enter Try.func64, Try.ntmps64
  go_wp2_with fail
  refine (knot_ok w).mono ?_; rintro e w1 ⟨n1, rfl, hn, x1⟩
  have HN := Lib.hid hn; have X1 := Lib.hid x1; clear hn x1
  go_wp2_with fail
  refine (fold_any _ _ _ _ _ _ _ _ _ _ _ _ HN.out).mono ?_; rintro e w2 ⟨i, GA, gn, gc, RA, rn, rc, OA, on, oc, vs, rfl, hno, x2⟩
  rw [show checkN knotM = 0 by decide +kernel]
  rw [show foldR knotM = foldN knotM by decide +kernel] at hno
  obtain rfl : gn = 10 := hno.gl.symm.trans (by decide +kernel)
  have hrow := hno.gates.row
  rw [show (foldN knotM).gates.length = 10 by decide +kernel] at hrow
  obtain ⟨g, gcc, eg⟩ := own_form hrow (by omega)
  have eA : GA = some ⟨g, 0, none⟩ := by injection eg
  subst eA
  clear eg
  obtain ⟨v8, hv8⟩ : ∃ v, vs[8]? = some v := ⟨_, List.getElem?_eq_getElem (by rw [hno.gates.vl]; decide +kernel)⟩
  obtain ⟨v7, hv7⟩ : ∃ v, vs[7]? = some v := ⟨_, List.getElem?_eq_getElem (by rw [hno.gates.vl]; decide +kernel)⟩
  have k8 := (gateCs_at (foldN knotM).gates vs 8 ⟨0, 0, []⟩ v8 (by decide +kernel) hv8).1
  have k7 := (gateCs_at (foldN knotM).gates vs 7 ⟨5, 0, [6, 8]⟩ v7 (by decide +kernel) hv7).1
  have g8 := hrow.cellAt 24 (by omega)
  have g7 := hrow.cellAt 21 (by omega)
  rw [k8] at g8; rw [k7] at g7
  have hqc : 10 ≤ gc ∧ gc ≤ maxLen := by
    obtain ⟨A', c', e, h1, h2, -⟩ := own_slice hrow
    injection e with _ _ e3; subst e3; exact ⟨h1, h2⟩
  have hq1 := hqc.1
  have hq2 := hqc.2
  unfold maxLen at hq2
  obtain ⟨wf, hwf⟩ : ∃ q, q = w2.alloc (.cells #[I i, .slice (some ⟨g, 0, none⟩) 10 gc, .slice RA rn rc, .slice OA on oc] 26) := ⟨_, rfl⟩
  have hxf : Ext w2 wf := by rw [hwf]; exact (Ext.refl _).alloc _
  have hbf : NetBox wf w2.heap.size i (some ⟨g, 0, none⟩) 10 gc RA rn rc OA on oc := by rw [hwf]; exact NetBox.new w2 _ _ _ _ _ _ _ _ _ _ _
  have HF := Lib.hid (hno.netC.keep hxf.keeps); have HBF := Lib.hid hbf; have HWF := Lib.hid hwf; have XF := Lib.hid (X1.out.trans (x2.trans hxf))
  have G8 := Lib.hid (hxf.keeps _ _ g8); have G7 := Lib.hid (hxf.keeps _ _ g7)
  clear hno x2 hrow g8 g7 k8 k7 hv8 hv7 hwf hxf hbf hqc
  go_wp2_with fail
  rw [← HWF.out]
  clear HWF
  refine (drop_any _ _ _ _ _ _ _ _ _ _ _ _ HF.out).mono ?_; rintro e w3 ⟨j, GB, dn, dc, RB, sn, sc, OB, pn, pc, us, rfl, hno, x3⟩
  rw [show checkN (foldN knotM) = 0 by decide +kernel]
  rw [show dropR (foldN knotM) = dropN (foldN knotM) by decide +kernel] at hno
  obtain rfl : dn = 9 := hno.gl.symm.trans (by decide +kernel)
  have hrow := hno.regs
  have e1 : storeCs (dropN (foldN knotM)).regs = [.bool false, I 6] := by
    have : (dropN (foldN knotM)).regs = [⟨false, 6⟩] := by decide +kernel
    rw [this]; rfl
  rw [e1] at hrow
  obtain rfl : sn = 1 := by have := hrow.1; simp at this; omega
  obtain ⟨rb, rcc, er⟩ := own_form hrow (by omega)
  have eR : RB = some ⟨rb, 0, none⟩ := by injection er
  subst eR
  clear er
  have r1 : w3.cell? ⟨rb, 1, none⟩ = some (I 6) := hrow.cellAt 1 (by omega)
  have houts := hno.netC.outs
  rw [show (dropN (foldN knotM)).outs = [7, 1] by decide +kernel] at houts
  obtain rfl : pn = 2 := by have := houts.len; simp at this; omega
  have hrc : 1 ≤ sc ∧ sc ≤ maxLen := by
    obtain ⟨A', c', e, h1, h2, -⟩ := own_slice hrow
    injection e with _ _ e3; subst e3; exact ⟨h1, h2⟩
  have hr1 := hrc.1
  have hr2 := hrc.2
  unfold maxLen at hr2
  obtain ⟨wd, hwd⟩ : ∃ q, q = w3.alloc (.cells #[I j, .slice GB 9 dc, .slice (some ⟨rb, 0, none⟩) 1 sc, .slice OB 2 pc] 26) := ⟨_, rfl⟩
  have hxd : Ext w3 wd := by rw [hwd]; exact (Ext.refl _).alloc _
  have hbd : NetBox wd w3.heap.size j GB 9 dc (some ⟨rb, 0, none⟩) 1 sc OB 2 pc := by rw [hwd]; exact NetBox.new w3 _ _ _ _ _ _ _ _ _ _ _
  have HWD := Lib.hid hwd
  have XD := Lib.hid (XF.out.trans (x3.trans hxd)); have HO := Lib.hid (houts.keep hxd.keeps)
  have q1 := (HBF.out.keep (x3.trans hxd).keeps).2.1
  have g8 := (x3.trans hxd).keeps _ _ G8.out; have g7 := (x3.trans hxd).keeps _ _ G7.out
  have r1 := hxd.keeps _ _ r1
  obtain ⟨-, d1, d2, d3⟩ := hbd
  rw [hwd] at q1 g8 g7 r1 d1 d2 d3
  have R1 := Lib.hid r1; have D2 := Lib.hid d2
  clear hno x3 hrow e1 houts hrc hxd
  have hsz : wd.heap.size = w3.heap.size + 1 := by rw [hwd]; simp
  have HSZ := Lib.hid hsz
  clear hwd hsz
  go_wp2_with fail
  rw [← HWD.out, ← HSZ.out]
  rw [← HWD.out] at d2 r1
  clear HWD HSZ
  refine (same_lit _ _ 2 _ _ [7, 1] _ (HO.out.keep (Keeps.alloc _ _)) (Sl.newAt _ _ [I 7, I 1] _ rfl) (by omega)).mono ?_; rintro e w5 ⟨rfl, x5⟩
  have hk := ((Ext.refl _).alloc _).trans x5
  have d2 := hk.keeps _ _ d2; have r1 := hk.keeps _ _ r1
  have X5 := Lib.hid (XD.out.trans hk)
  clear hk x5 d1 d3 g8 g7 q1 XD HO
  go_wp2
  go_ret
  exact ⟨rfl, X5.out⟩
end Go.Proofs.Ytjagbnaacfhokaa
/- FoldOf, by the reference. -/
namespace Go.Proofs.Ytjagbnaacfhokaa
set_option linter.unusedVariables false
set_option linter.unusedSimpArgs false
open Go.RowKit

theorem mix_same {F G : List GateM} {k : Nat} {y : GateM} (hF : F[k]? = some y) (hG : G[k]? = some y) (hl : F.length = G.length) : F.take k ++ G.drop k = F.take (k + 1) ++ G.drop (k + 1) := by
  rw [← mixG_set hF hl, set_same (mixG_at hG hl)]
theorem own_neT {w : World} {base base' : Nat} {e e' : TypeId} {size size' n m : Nat} {v v' : Value} {xs ys : List Value} (h : w.ownsRow base e size v n xs) (h' : w.ownsRow base' e' size' v' m ys) (hne : e ≠ e') {g : Nat} (hg : v'.ownBlock = some g) : v.ownBlock ≠ some g := by
  rcases own_types h h' hne with q | q
  · rw [q]; intro hh; cases hh
  · rw [← hg]; exact q
section
variable (i : Int) (GA : Option Addr) (gn gc : Nat) (RA : Option Addr) (rn rc : Nat) (OA : Option Addr) (on oc : Nat) (N : NetM) (w : World)
set_option maxRecDepth 100000 in
set_option maxHeartbeats 8000000 in
theorem foldOf_any (h : NetC w i GA gn gc RA rn rc OA on oc N) (ok : NetOK N) :
    Calls Try.prog 62 #[netV i GA gn gc RA rn rc OA on oc] w fun e w' => NetRes1 w w' w.heap.size e (foldN N) := by
  have hgl : N.gates.length = gn := h.gates.1
  have hrl : N.regs.length = rn := h.regs.1
  have hin := h.ins
  have ak := opens_asked ok
  rw [hrl] at ak
  obtain ⟨m, rfl⟩ : ∃ m : Nat, i = m := ⟨i.toNat, by have := ok.ins0; omega⟩
  have hm : N.ins.toNat = m := by omega
  have hm3 : m ≤ 3 := by have := ok.ins3; omega
  have hr20 : rn ≤ 20 := by have := ok.rl; omega
  have hg200 : gn ≤ 200 := by have := ok.gl; omega
  rw [hm] at ak
  obtain ⟨W0, hW0⟩ : ∃ W, W = w.alloc (.cells #[I m, .slice GA gn gc, .slice RA rn rc, .slice OA on oc] 26) := ⟨_, rfl⟩
  have hx0 : Ext w W0 := by rw [hW0]; exact (Ext.refl _).alloc _
  obtain ⟨W, hW⟩ : ∃ W, W = W0.alloc (.cells #[I 0, .slice none 0 0, .slice none 0 0, .slice none 0 0] 26) := ⟨_, rfl⟩
  have hx1 : Ext W0 W := by rw [hW]; exact (Ext.refl _).alloc _
  have hs0 : W0.heap.size = w.heap.size + 1 := by rw [hW0]; simp
  have hbox : NetBox W w.heap.size m GA gn gc RA rn rc OA on oc := by
    have : NetBox W0 w.heap.size m GA gn gc RA rn rc OA on oc := by rw [hW0]; exact NetBox.new w m GA gn gc RA rn rc OA on oc _
    exact this.keep hx1.keeps
  have hz : Box W (w.heap.size + 1) 26 [I 0, .slice none 0 0, .slice none 0 0, .slice none 0 0] := by rw [← hs0, hW]; exact Box.new W0 _ _
  have HN := Lib.hid (h.keep (hx0.trans hx1).keeps); have HBox := Lib.hid hbox; have HX := Lib.hid (hx0.trans hx1); have HZ := Lib.hid hz
  have HW : Hid (W = (w.alloc (.cells #[I m, .slice GA gn gc, .slice RA rn rc, .slice OA on oc] 26)).alloc (.cells #[I 0, .slice none 0 0, .slice none 0 0, .slice none 0 0] 26)) := by unfold Hid; rw [hW, hW0]
  have hV : foldV N = settledM N.gates (opensM rn) (opensM m) := by unfold foldV; rw [hrl, hm]
  have hVl : (foldV N).length = gn := by rw [foldV_len, hgl]
  have hVg := foldV_good N
  obtain ⟨F, hF⟩ : ∃ F, F = (foldN N).gates := ⟨_, rfl⟩
  have hFl : F.length = gn := by rw [hF, foldN_len, hgl]
  have hFG : F.length = N.gates.length := by rw [hFl, hgl]
  have hFat : ∀ (k : Nat) g, N.gates[k]? = some g → F[k]? = some (foldG g (valI (foldV N) k)) := fun k g hg => by rw [hF]; exact foldGs_at N.gates (foldV N) k g (foldV_len N).symm hg
  generalize hVV : foldV N = V at *
  have HV := Lib.hid hV; have HVL := Lib.hid hVl; have HVG := Lib.hid hVg; have HFA := Lib.hid hFat; have HFL := Lib.hid hFl; have HF := Lib.hid hF; have HFG := Lib.hid hFG
  have AK := Lib.hid ak; have HOK := Lib.hid ok; have HIN := Lib.hid hin; have HGL := Lib.hid hgl
  have B0 : Hid (W.cell? ⟨w.heap.size, 0, none⟩ = some (I m)) := hbox.1
  have B1 : Hid (W.cell? ⟨w.heap.size, 1, none⟩ = some (.slice GA gn gc)) := hbox.2.1
  have B2 : Hid (W.cell? ⟨w.heap.size, 2, none⟩ = some (.slice RA rn rc)) := hbox.2.2.1
  have B3 : Hid (W.cell? ⟨w.heap.size, 3, none⟩ = some (.slice OA on oc)) := hbox.2.2.2
  have hst : ∀ Q (A5 : Option Addr) (c5 : Nat) (B5 : Option Addr) (d5 : Nat), Ext W Q → Sl Q A5 rn ((opensM rn).map I) → Sl Q B5 m ((opensM m).map I) → Calls Try.prog 77 #[netV m GA gn gc RA rn rc OA on oc, .slice A5 rn c5, .slice B5 m d5] Q fun e w' => ∃ v, e = .returned v ∧ w'.ownsRow Q.heap.size 3 1 v gn (V.map I) ∧ Ext Q w' := fun Q A5 c5 B5 d5 hQ h1 h2 => by
    rw [HV.out]; exact settled_any m GA gn gc RA rn rc OA on oc N A5 rn c5 B5 m d5 _ _ Q (HN.out.keep hQ.keeps) h1 h2 AK.out
  have hop : ∀ Q (k : Nat), k ≤ 20 → Calls Try.prog 111 #[I k] Q fun e w' => ∃ v, e = .returned v ∧ w'.ownsRow Q.heap.size 3 1 v k ((opensM k).map I) ∧ Ext Q w' := fun Q k hk => ropens_any k Q hk
  have ST := Lib.hid hst; have OP := Lib.hid hop
  clear h ak ok hin hgl hrl hm hW0 hx0 hW hx1 hs0 hbox hz hV hVl hVg hF hFl hFat hVV hFG hst hop
  go_enter Try.func62, Try.ntmps62
  go_upto_region 1 with fail
  rw [← HW.out]
  refine wp_flow3 10 0 [isV (.agg #[.int .i64 m, .slice GA gn gc, .slice RA rn rc, .slice OA on oc]), isV (.pointer (some ⟨w.heap.size, 2, none⟩)), isV (.slice RA rn rc), isV (.int .i64 rn), fun v w => ∃ A c, v = .slice A rn c ∧ w.ownsRow W.heap.size 3 1 (.slice A rn c) rn ((opensM rn).map I), isV (.pointer (some ⟨w.heap.size, 0, none⟩)), isV (.int .i64 m), fun v w => ∃ A c, v = .slice A m c ∧ w.ownsRow W.heap.size 3 1 (.slice A m c) m ((opensM m).map I), fun v w => ∃ A c, v = .slice A gn c ∧ w.ownsRow W.heap.size 3 1 (.slice A gn c) gn (V.map I), fun v w => ∃ A c, v = .slice A gn c ∧ w.ownsRow W.heap.size 3 1 (.slice A gn c) gn (V.map I)] (by kernel_rfl) rfl rfl (by kernel_rfl) (by kernel_rfl) ⟨isV_mono, isV_mono, isV_mono, isV_mono, fun v w w' ⟨A, c, e, h⟩ hx => ⟨A, c, e, own_ext h hx⟩, isV_mono, isV_mono, fun v w w' ⟨A, c, e, h⟩ hx => ⟨A, c, e, own_ext h hx⟩, fun v w w' ⟨A, c, e, h⟩ hx => ⟨A, c, e, own_ext h hx⟩, fun v w w' ⟨A, c, e, h⟩ hx => ⟨A, c, e, own_ext h hx⟩, trivial⟩ ?each ?rest
  case each =>
    refine .cons ?_ (.cons ?_ (.cons ?_ (.cons ?_ (.cons ?_ (.cons ?_ (.cons ?_ (.cons ?_ (.cons ?_ (.cons ?_ (.nil))))))))))
    · intro fa fw hx hs hb
      have s1 : fa.tmps[(1 : Nat)]? = some (.pointer (some ⟨w.heap.size, 0, none⟩)) := (hb 1 (by kernel_rfl)).trans (by rfl)
      have c0 := hx.keeps _ _ B0.out
      have c1 := hx.keeps _ _ B1.out
      have c2 := hx.keeps _ _ B2.out
      have c3 := hx.keeps _ _ B3.out
      refine .inl ⟨wanted_free rfl, fun K hK => ?_⟩
      clear hs hb hx
      go_simp
      exact hK _ _ rfl (Ext.refl _)
    · intro fa fw hx hs hb
      have s1 : fa.tmps[(1 : Nat)]? = some (.pointer (some ⟨w.heap.size, 0, none⟩)) := (hb 1 (by kernel_rfl)).trans (by rfl)
      refine .inl ⟨wanted_free rfl, fun K hK => ?_⟩
      clear hs hb hx
      go_simp
      exact hK _ _ rfl (Ext.refl _)
    · intro fa fw hx hs hb
      obtain ⟨_, s7, rfl⟩ := hs 1 7 (by kernel_rfl) (by kernel_rfl)
      have c0 := hx.keeps _ _ B2.out
      refine .inl ⟨wanted_free rfl, fun K hK => ?_⟩
      clear hs hb hx
      go_simp
      exact hK _ _ rfl (Ext.refl _)
    · intro fa fw hx hs hb
      obtain ⟨_, s8, rfl⟩ := hs 2 8 (by kernel_rfl) (by kernel_rfl)
      refine .inl ⟨wanted_free rfl, fun K hK => ?_⟩
      clear hs hb
      go_simp
      exact hK _ _ rfl (Ext.refl _)
    · intro fa fw hx hs hb
      obtain ⟨_, s9, rfl⟩ := hs 3 9 (by kernel_rfl) (by kernel_rfl)
      refine .inl ⟨wanted_free rfl, fun K hK => ?_⟩
      clear hs hb
      go_simp
      refine (OP.out fw rn (by omega)).mono ?_
      rintro e w' ⟨r0, rfl, ho, xq⟩
      obtain ⟨Aq, cq, rfl, -, -, -⟩ := own_sl ho
      exact hK _ _ ⟨Aq, cq, rfl, own_base ho hx.size⟩ xq
    · intro fa fw hx hs hb
      have s1 : fa.tmps[(1 : Nat)]? = some (.pointer (some ⟨w.heap.size, 0, none⟩)) := (hb 1 (by kernel_rfl)).trans (by rfl)
      refine .inl ⟨wanted_free rfl, fun K hK => ?_⟩
      clear hs hb hx
      go_simp
      exact hK _ _ rfl (Ext.refl _)
    · intro fa fw hx hs hb
      obtain ⟨_, s11, rfl⟩ := hs 5 11 (by kernel_rfl) (by kernel_rfl)
      have c0 := hx.keeps _ _ B0.out
      refine .inl ⟨wanted_free rfl, fun K hK => ?_⟩
      clear hs hb hx
      go_simp
      exact hK _ _ rfl (Ext.refl _)
    · intro fa fw hx hs hb
      obtain ⟨_, s12, rfl⟩ := hs 6 12 (by kernel_rfl) (by kernel_rfl)
      refine .inl ⟨wanted_free rfl, fun K hK => ?_⟩
      clear hs hb
      go_simp
      refine (OP.out fw m (by omega)).mono ?_
      rintro e w' ⟨r0, rfl, ho, xq⟩
      obtain ⟨Aq, cq, rfl, -, -, -⟩ := own_sl ho
      exact hK _ _ ⟨Aq, cq, rfl, own_base ho hx.size⟩ xq
    · intro fa fw hx hs hb
      obtain ⟨_, s6, rfl⟩ := hs 0 6 (by kernel_rfl) (by kernel_rfl)
      obtain ⟨_, s10, A10, c10, rfl, q10⟩ := hs 4 10 (by kernel_rfl) (by kernel_rfl)
      obtain ⟨_, s13, A13, c13, rfl, q13⟩ := hs 7 13 (by kernel_rfl) (by kernel_rfl)
      refine .inl ⟨wanted_free rfl, fun K hK => ?_⟩
      clear hs hb
      obtain ⟨Ar, cr, er, -, -, hsr⟩ := own_sl q10
      injection er with er _ ec
      subst er; subst ec
      obtain ⟨Ai, ci, ei, -, -, hsi⟩ := own_sl q13
      injection ei with ei _ ec
      subst ei; subst ec
      go_simp
      refine (ST.out fw _ _ _ _ hx hsr hsi).mono ?_
      rintro e w' ⟨r0, rfl, ho, xq⟩
      obtain ⟨Aq, cq, rfl, -, -, -⟩ := own_sl ho
      exact hK _ _ ⟨Aq, cq, rfl, own_base ho hx.size⟩ xq
    · intro fa fw hx hs hb
      obtain ⟨_, s14, A14, c14, rfl, q14⟩ := hs 8 14 (by kernel_rfl) (by kernel_rfl)
      refine .inl ⟨wanted_free rfl, fun K hK => ?_⟩
      clear hs hb
      go_simp
      exact hK _ _ ⟨A14, c14, rfl, q14⟩ (Ext.refl _)
  case rest =>
    intro w2 hxw2
    rintro _ rfl
    rintro _ rfl
    rintro _ rfl
    rintro _ rfl
    rintro _ ⟨A10, c10, rfl, q10⟩
    rintro _ rfl
    rintro _ rfl
    rintro _ ⟨A13, c13, rfl, q13⟩
    rintro _ ⟨A14, c14, rfl, q14⟩
    rintro _ ⟨A3, c3, rfl, q3⟩
    simp only [putAll, List.take, Act.put, List.setIfInBounds_toArray, List.set_cons_zero, List.set_cons_succ]
    refine wpAny_done (by kernel_rfl) ?_ _
    have b0 := hxw2.keeps _ _ B0.out; have b1 := hxw2.keeps _ _ B1.out; have b2 := hxw2.keeps _ _ B2.out; have b3 := hxw2.keeps _ _ B3.out
    have X2 := Lib.hid hxw2; have V2 := Lib.hid q3
    clear hxw2 q3 q10 q13 ST OP
    go_wp2_with fail
    refine (ownNet_any m GA gn gc RA rn rc OA on oc N w2 (HN.out.keep X2.out.keeps) HOK.out).mono ?_
    rintro e w3 ⟨i3, GA3, gn3, gc3, RA3, rn3, rc3, OA3, on3, oc3, vs3, rfl, hno, x3⟩
    have hgn3 := hno.gl
    rw [HGL.out] at hgn3
    subst hgn3
    have NO3 := Lib.hid hno; have X3 := Lib.hid x3
    clear hno x3 b0 b1 b2 b3
    obtain ⟨w4, hw4⟩ : ∃ w4, w4 = w3.alloc (.cells #[I i3, .slice GA3 gn gc3, .slice RA3 rn3 rc3, .slice OA3 on3 oc3] 26) := ⟨_, rfl⟩
    have hx4 : Ext w3 w4 := by rw [hw4]; exact (Ext.refl _).alloc _
    have hb4 : Box w4 w3.heap.size 26 [I i3, .slice GA3 gn gc3, .slice RA3 rn3 rc3, .slice OA3 on3 oc3] := by rw [hw4]; exact Box.new w3 _ _
    have NO4 := Lib.hid (NO3.out.ext hx4); have HB4 := Lib.hid hb4; have HW4 := Lib.hid hw4; have X4 := Lib.hid (X3.out.trans hx4)
    obtain ⟨VA, vc, ev, -, -, hsv⟩ := own_sl V2.out
    injection ev with ev _ ev2; subst ev; subst ev2
    have HSV := Lib.hid hsv
    clear hw4 hx4 hb4 NO3 hsv
    go_upto_region 3 with fail
    rw [← HW4.out]
    go_wp2_with fail
    go_loopw [5] (fun j wr => ∃ (k : Nat) (vs : List Value), k ≤ gn ∧ j = .int .i64 k ∧ Ext w2 wr ∧ Box wr w3.heap.size 26 [I i3, .slice GA3 gn gc3, .slice RA3 rn3 rc3, .slice OA3 on3 oc3] ∧
      NetO wr w2.heap.size i3 GA3 gn gc3 RA3 rn3 rc3 OA3 on3 oc3 { N with gates := F.take k ++ N.gates.drop k } vs) (fun j _ => gn - (intOf j).toNat)
    case atStart => exact ⟨0, vs3, Nat.zero_le _, rfl, X4.out, HB4.out, NO4.out⟩
    case round =>
      obtain ⟨k, vs, hk, rfl, hext, hbx, hno⟩ := hrel
      by_cases hlt : k < gn
      · obtain ⟨vb, vo, x, rfl, hv0, hvx⟩ := HSV.out.at_ hlt
        have hcv := hext.keeps _ _ hv0
        obtain ⟨g, hg⟩ : ∃ g, N.gates[k]? = some g := ⟨_, List.getElem?_eq_getElem (by rw [HGL.out]; exact hlt)⟩
        have hFk := HFA.out k g hg
        have hvk : valI V k = x := valI_at hvx
        rw [hvk] at hFk
        have hx2 := valI_good HVG.out k
        rw [hvk] at hx2
        have hgk := mixG_at hg HFG.out
        obtain ⟨vk, hvk2⟩ : ∃ v, vs[k]? = some v := ⟨_, List.getElem?_eq_getElem (by have := hno.gates.vl; have := hno.gl; omega)⟩
        obtain ⟨gb, gcc, eg⟩ := own_form hno.gates.row (by have := hno.gl; omega)
        have eg1 : GA3 = some ⟨gb, 0, none⟩ := by injection eg
        clear eg
        subst eg1
        have hbn : gb ≠ w3.heap.size := fun e => hbx.apart hno.gates.row (by decide) (by simp [Value.ownBlock, e])
        rcases hx2 with rfl | rfl | rfl
        · obtain ⟨e0, e1, e2⟩ := gateCs_at _ vs k g vk hgk hvk2
          have hkn : k < (F.take k ++ N.gates.drop k).length := by have := hno.gl; simp only at this; omega
          have hrow := hno.gates.row
          rw [hno.gl] at hrow
          have c0 := hrow.cellAt (k * 3) (by omega); have c1 := hrow.cellAt (k * 3 + 1) (by omega); have c2 := hrow.cellAt (k * 3 + 2) (by omega)
          rw [e0] at c0; rw [e1] at c1; rw [e2] at c2
          have fz := hrow.frozenAt; clear hrow
          have m1 := (hbx.cell 1).trans rfl
          simp only [List.getElem?_cons_zero, List.getElem?_cons_succ] at m1
          obtain ⟨w5, hw5⟩ : ∃ w5, w5 = ((wr.setCell ⟨gb, k * 3, none⟩ (I 0)).setCell ⟨gb, k * 3 + 1, none⟩ (I 0)).setCell ⟨gb, k * 3 + 2, none⟩ (.slice none 0 0) := ⟨_, rfl⟩
          have hfx : F[k]? = some ⟨0, 0, []⟩ := by rw [hFk]; rfl
          have hg5 : OwnG w5 w2.heap.size (.slice (some ⟨gb, 0, none⟩) gn gc3) (F.take (k + 1) ++ N.gates.drop (k + 1)) (vs.set k (.slice none 0 0)) := by rw [← mixG_set hfx HFG.out, hw5]; exact hno.gates.setGate hkn 0
          have hrg : (Value.slice RA3 rn3 rc3).ownBlock ≠ some gb := own_neT hno.regs hno.gates.row (by decide) rfl
          have hog : (Value.slice OA3 on3 oc3).ownBlock ≠ some gb := own_neT hno.outs hno.gates.row (by decide) rfl
          have hr5 := own_set (own_set (own_set hno.regs hrg (k * 3) (I 0)) hrg (k * 3 + 1) (I 0)) hrg (k * 3 + 2) (.slice none 0 0)
          have ho5 := own_set (own_set (own_set hno.outs hog (k * 3) (I 0)) hog (k * 3 + 1) (I 0)) hog (k * 3 + 2) (.slice none 0 0)
          rw [← hw5] at hr5 ho5
          have hb5 : Box w5 w3.heap.size 26 [I i3, .slice (some ⟨gb, 0, none⟩) gn gc3, .slice RA3 rn3 rc3, .slice OA3 on3 oc3] := by rw [hw5]; exact ((hbx.kept (grownBy_set _ gb _ _) (by simpa using hbn)).kept (grownBy_set _ gb _ _) (by simpa using hbn)).kept (grownBy_set _ gb _ _) (by simpa using hbn)
          have hge : w2.heap.size ≤ gb := (hno.gates.row.lt gb rfl).1
          have hx5 : Ext w2 w5 := by rw [hw5]; exact ((hext.setCell (p := ⟨gb, k * 3, none⟩) hge _).setCell (p := ⟨gb, k * 3 + 1, none⟩) hge _).setCell (p := ⟨gb, k * 3 + 2, none⟩) hge _
          have hn5 : NetO w5 w2.heap.size i3 (some ⟨gb, 0, none⟩) gn gc3 RA3 rn3 rc3 OA3 on3 oc3 { N with gates := F.take (k + 1) ++ N.gates.drop (k + 1) } (vs.set k (.slice none 0 0)) := ⟨hno.ins, by have := hno.gl; rw [← mixG_set hfx HFG.out]; simpa using this, hg5, hr5, ho5⟩
          have hcv5 : w5.cell? ⟨vb, vo + k, none⟩ = some (.int .i64 0) := hx5.keeps _ _ hv0
          have N5 := Lib.hid hn5; have B5 := Lib.hid hb5; have X5 := Lib.hid hx5; have HW5 := Lib.hid hw5
          clear hno hbx hext hfx hg5 hr5 ho5 hb5 hx5 hn5 hw5 hrg hog hge hFk hvk hvx hv0 hgk hvk2 e0 e1 e2 hg hkn hbn
          rw [HW5.out] at hcv5
          go_wp2_with fail
          rw [← HW5.out]
          go_roundw
          case rel => exact ⟨k + 1, _, by omega, by go_num, X5.out, B5.out, N5.out⟩
          case measure => simp [intOf]; omega
        · obtain ⟨e0, e1, e2⟩ := gateCs_at _ vs k g vk hgk hvk2
          have hkn : k < (F.take k ++ N.gates.drop k).length := by have := hno.gl; simp only at this; omega
          have hrow := hno.gates.row
          rw [hno.gl] at hrow
          have c0 := hrow.cellAt (k * 3) (by omega); have c1 := hrow.cellAt (k * 3 + 1) (by omega); have c2 := hrow.cellAt (k * 3 + 2) (by omega)
          rw [e0] at c0; rw [e1] at c1; rw [e2] at c2
          have fz := hrow.frozenAt; clear hrow
          have m1 := (hbx.cell 1).trans rfl
          simp only [List.getElem?_cons_zero, List.getElem?_cons_succ] at m1
          obtain ⟨w5, hw5⟩ : ∃ w5, w5 = ((wr.setCell ⟨gb, k * 3, none⟩ (I 1)).setCell ⟨gb, k * 3 + 1, none⟩ (I 0)).setCell ⟨gb, k * 3 + 2, none⟩ (.slice none 0 0) := ⟨_, rfl⟩
          have hfx : F[k]? = some ⟨1, 0, []⟩ := by rw [hFk]; rfl
          have hg5 : OwnG w5 w2.heap.size (.slice (some ⟨gb, 0, none⟩) gn gc3) (F.take (k + 1) ++ N.gates.drop (k + 1)) (vs.set k (.slice none 0 0)) := by rw [← mixG_set hfx HFG.out, hw5]; exact hno.gates.setGate hkn 1
          have hrg : (Value.slice RA3 rn3 rc3).ownBlock ≠ some gb := own_neT hno.regs hno.gates.row (by decide) rfl
          have hog : (Value.slice OA3 on3 oc3).ownBlock ≠ some gb := own_neT hno.outs hno.gates.row (by decide) rfl
          have hr5 := own_set (own_set (own_set hno.regs hrg (k * 3) (I 1)) hrg (k * 3 + 1) (I 0)) hrg (k * 3 + 2) (.slice none 0 0)
          have ho5 := own_set (own_set (own_set hno.outs hog (k * 3) (I 1)) hog (k * 3 + 1) (I 0)) hog (k * 3 + 2) (.slice none 0 0)
          rw [← hw5] at hr5 ho5
          have hb5 : Box w5 w3.heap.size 26 [I i3, .slice (some ⟨gb, 0, none⟩) gn gc3, .slice RA3 rn3 rc3, .slice OA3 on3 oc3] := by rw [hw5]; exact ((hbx.kept (grownBy_set _ gb _ _) (by simpa using hbn)).kept (grownBy_set _ gb _ _) (by simpa using hbn)).kept (grownBy_set _ gb _ _) (by simpa using hbn)
          have hge : w2.heap.size ≤ gb := (hno.gates.row.lt gb rfl).1
          have hx5 : Ext w2 w5 := by rw [hw5]; exact ((hext.setCell (p := ⟨gb, k * 3, none⟩) hge _).setCell (p := ⟨gb, k * 3 + 1, none⟩) hge _).setCell (p := ⟨gb, k * 3 + 2, none⟩) hge _
          have hn5 : NetO w5 w2.heap.size i3 (some ⟨gb, 0, none⟩) gn gc3 RA3 rn3 rc3 OA3 on3 oc3 { N with gates := F.take (k + 1) ++ N.gates.drop (k + 1) } (vs.set k (.slice none 0 0)) := ⟨hno.ins, by have := hno.gl; rw [← mixG_set hfx HFG.out]; simpa using this, hg5, hr5, ho5⟩
          have hcv5 : w5.cell? ⟨vb, vo + k, none⟩ = some (.int .i64 1) := hx5.keeps _ _ hv0
          have N5 := Lib.hid hn5; have B5 := Lib.hid hb5; have X5 := Lib.hid hx5; have HW5 := Lib.hid hw5
          clear hno hbx hext hfx hg5 hr5 ho5 hb5 hx5 hn5 hw5 hrg hog hge hFk hvk hvx hv0 hgk hvk2 e0 e1 e2 hg hkn hbn
          clear hcv5
          go_wp2_with fail
          rw [← HW5.out]
          go_roundw
          case rel => exact ⟨k + 1, _, by omega, by go_num, X5.out, B5.out, N5.out⟩
          case measure => simp [intOf]; omega
        · have hfg : F[k]? = some g := hFk
          rw [mix_same hfg hg HFG.out] at hno
          have HNO := Lib.hid hno; have HB := Lib.hid hbx; have HE := Lib.hid hext
          clear hno hbx hext hFk hfg hvk hvx hv0 hgk hvk2 hg hbn
          go_wp2
          go_roundw
          case rel => exact ⟨k + 1, _, by omega, by go_num, HE.out, HB.out, HNO.out⟩
          case measure => simp [intOf]; omega
      · obtain rfl : gn = k := by omega
        have ht : F.take gn ++ N.gates.drop gn = F := by rw [List.take_of_length_le (by rw [HFL.out]; exact Nat.le_refl _), List.drop_eq_nil_of_le (by rw [HGL.out]; exact Nat.le_refl _), List.append_nil]
        rw [ht] at hno
        have hz := (HZ.out.ext X2.out).ext hext
        have m0 := (hbx.cell 0).trans rfl; have m1 := (hbx.cell 1).trans rfl; have m2 := (hbx.cell 2).trans rfl; have m3 := (hbx.cell 3).trans rfl
        have n0 := (hz.cell 0).trans rfl; have n1 := (hz.cell 1).trans rfl; have n2 := (hz.cell 2).trans rfl; have n3 := (hz.cell 3).trans rfl
        simp only [List.getElem?_cons_zero, List.getElem?_cons_succ] at m0 m1 m2 m3 n0 n1 n2 n3
        have fz := hz.free
        have hne : w3.heap.size ≠ w.heap.size + 1 := by have := HZ.out.lt; have := X2.out.size; have := X3.out.size; omega
        obtain ⟨w9, hw9⟩ : ∃ w9, w9 = (((wr.setCell ⟨w.heap.size + 1, 0, none⟩ (I i3)).setCell ⟨w.heap.size + 1, 1, none⟩ (.slice GA3 gn gc3)).setCell ⟨w.heap.size + 1, 2, none⟩ (.slice RA3 rn3 rc3)).setCell ⟨w.heap.size + 1, 3, none⟩ (.slice OA3 on3 oc3) := ⟨_, rfl⟩
        have hk9 : Box w9 (w.heap.size + 1) 26 [I i3, .slice GA3 gn gc3, .slice RA3 rn3 rc3, .slice OA3 on3 oc3] := by rw [hw9]; exact (((hz.set 0 (I i3)).set 1 (.slice GA3 gn gc3)).set 2 (.slice RA3 rn3 rc3)).set 3 (.slice OA3 on3 oc3)
        have ar := hz.apart hno.regs (by decide); have ao := hz.apart hno.outs (by decide)
        have hn9 : NetO w9 w2.heap.size i3 GA3 gn gc3 RA3 rn3 rc3 OA3 on3 oc3 (foldN N) vs := by
          refine ⟨hno.ins, by rw [← HF.out]; exact HFL.out, ?_, ?_, ?_⟩
          · rw [hw9, ← HF.out]
            exact (((hno.gates.box hz 0 (I i3)).box (hz.set 0 (I i3)) 1 (.slice GA3 gn gc3)).box ((hz.set 0 (I i3)).set 1 (.slice GA3 gn gc3)) 2 (.slice RA3 rn3 rc3)).box (((hz.set 0 (I i3)).set 1 (.slice GA3 gn gc3)).set 2 (.slice RA3 rn3 rc3)) 3 (.slice OA3 on3 oc3)
          · rw [hw9]; exact own_set (own_set (own_set (own_set hno.regs ar _ _) ar _ _) ar _ _) ar _ _
          · rw [hw9]; exact own_set (own_set (own_set (own_set hno.outs ao _ _) ao _ _) ao _ _) ao _ _
        have hx9 : Ext w w9 := by
          have h0 : Ext w wr := (HX.out.trans X2.out).trans hext
          rw [hw9]; exact (((h0.setCell (p := ⟨w.heap.size + 1, 0, none⟩) (Nat.le_succ _) _).setCell (p := ⟨w.heap.size + 1, 1, none⟩) (Nat.le_succ _) _).setCell (p := ⟨w.heap.size + 1, 2, none⟩) (Nat.le_succ _) _).setCell (p := ⟨w.heap.size + 1, 3, none⟩) (Nat.le_succ _) _
        have HNO := Lib.hid hn9; have HX9 := Lib.hid hx9; have HK9 := Lib.hid hk9; have HW9 := Lib.hid hw9
        clear hno hbx hz ht hw9 hk9 ar ao hx9 hn9 hext
        go_wp2
        rw [← HW9.out]
        refine bodyPost_ret (v := netV i3 GA3 gn gc3 RA3 rn3 rc3 OA3 on3 oc3) ?_ rfl ⟨i3, GA3, gn, gc3, RA3, rn3, rc3, OA3, on3, oc3, vs, rfl, HNO.out.base_le (HX.out.trans X2.out).size, HX9.out⟩
        have q0 := (HK9.out.cell 0).trans rfl; have q1 := (HK9.out.cell 1).trans rfl; have q2 := (HK9.out.cell 2).trans rfl; have q3 := (HK9.out.cell 3).trans rfl
        simp only [List.getElem?_cons_zero, List.getElem?_cons_succ] at q0 q1 q2 q3
        clear HNO HX9 HK9 HW9 m0 m1 m2 m3 n0 n1 n2 n3 fz
        simp [results, Try.results62, go_sem, q0, q1, q2, q3]
end
end Go.Proofs.Ytjagbnaacfhokaa
