/- What must be in any case of pack. -/
import Derived.Test.YtjagbnaacfhokaaPk22
import Derived.Test.YtjagbnaacfhokaaPk26
import Derived.Test.YtjagbnaacfhokaaPk29
import Derived.Test.YtjagbnaacfhokaaPk04
import Derived.Test.YtjagbnaacfhokaaPk27
namespace Go.Proofs.Ytjagbnaacfhokaa
set_option linter.unusedVariables false
set_option linter.unusedSimpArgs false
open Go.RowKit

def tiedOs (n : Nat) : List Obj := knotOs n (knotGs n [1] (A1 n) [9] (some ⟨n + 12, 0, none⟩)) 6 ++ [knotBox n, .cells #[I 9] 3]
theorem tiedW_box (w : World) (cs : Array Value) : tiedW (w.alloc (.cells cs 26)) = allocs w (.cells cs 26 :: tiedOs (w.heap.size + 1)) := by
  have h : (w.alloc (.cells cs 26)).heap.size = w.heap.size + 1 := World.size_alloc ..
  unfold tiedW; rw [h]; rfl
def tiedNetCs (n : Nat) : Array Value := #[I 1, .slice (some ⟨n + 8, 0, none⟩) 10 10, .slice (some ⟨n + 9, 0, none⟩) 1 1, .slice (some ⟨n + 10, 0, none⟩) 2 2]
def zeroNet : Array Value := #[I 0, .slice none 0 0, .slice none 0 0, .slice none 0 0]
theorem tied_out (w : World) (v0 v1 v2 v3 : Value) : ((((tiedW (w.alloc (.cells zeroNet 26))).setCell ⟨w.heap.size, 0, none⟩ v0).setCell ⟨w.heap.size, 1, none⟩ v1).setCell ⟨w.heap.size, 2, none⟩ v2).setCell ⟨w.heap.size, 3, none⟩ v3 = tiedW (w.alloc (.cells #[v0, v1, v2, v3] 26)) := by
  rw [tiedW_box, tiedW_box]
  rw [allocs_set (j := 0) rfl 0 v0 (Nat.add_zero _).symm, List.set_cons_zero]
  rw [allocs_set (j := 0) rfl 1 v1 (Nat.add_zero _).symm, List.set_cons_zero]
  rw [allocs_set (j := 0) rfl 2 v2 (Nat.add_zero _).symm, List.set_cons_zero]
  rw [allocs_set (j := 0) rfl 3 v3 (Nat.add_zero _).symm, List.set_cons_zero]
  rfl
abbrev tiedV (n : Nat) : Value := netV 1 (some ⟨n + 8, 0, none⟩) 10 10 (some ⟨n + 9, 0, none⟩) 1 1 (some ⟨n + 10, 0, none⟩) 2 2
set_option maxRecDepth 100000 in
set_option maxHeartbeats 4000000 in
theorem tied_ok (w : World) : Calls Try.prog 88 #[] w fun e w' => ∃ n, e = .returned (tiedV n) ∧ NetC w' 1 (some ⟨n + 8, 0, none⟩) 10 10 (some ⟨n + 9, 0, none⟩) 1 1 (some ⟨n + 10, 0, none⟩) 2 2 tiedM ∧ Ext w w' := by
  obtain ⟨W0, hW0⟩ : ∃ W0, W0 = w.alloc (.cells zeroNet 26) := ⟨_, rfl⟩
  have hs : W0.heap.size = w.heap.size + 1 := by rw [hW0]; simp
  have tc := tied_cell W0; have tf := tied_free W0
  unfold tied0 knotBox at tc tf
  have hE := tied_set W0
  unfold tied0 knotBox at hE
  have HE := Lib.hid hE; clear hE
  have hks := Lib.hid (knotW_size W0)
  have HW0 : Hid (W0 = w.alloc (.cells #[I 0, .slice none 0 0, .slice none 0 0, .slice none 0 0] 26)) := hW0
  have HS := Lib.hid hs
  have HX0 : Hid (Ext w (tiedW (w.alloc (.cells #[I 1, .slice (some ⟨W0.heap.size + 8, 0, none⟩) 10 10, .slice (some ⟨W0.heap.size + 9, 0, none⟩) 1 1, .slice (some ⟨W0.heap.size + 10, 0, none⟩) 2 2] 26)))) := ((Ext.refl w).alloc _).trans (tiedW_ext _)
  have HO := Lib.hid (tied_out w (I 1) (.slice (some ⟨W0.heap.size + 8, 0, none⟩) 10 10) (.slice (some ⟨W0.heap.size + 9, 0, none⟩) 1 1) (.slice (some ⟨W0.heap.size + 10, 0, none⟩) 2 2))
  clear hs hW0
  go_enter Try.func88, Try.ntmps88
  go_wp2_with fail
  rw [← HW0.out]
  refine (knot_any W0).mono ?_; rintro e w0 ⟨rfl, rfl⟩
  go_upto_region 3 with fail
  rw [hks.out, show W0.heap.size + 11 + 1 = W0.heap.size + 12 from rfl, HE.out]
  clear tc tf HE hks
  have HC := Lib.hid (tiedC W0); have HB := Lib.hid (tiedBox W0)
  have hb0 : Box (tiedW W0) w.heap.size 26 [I 0, .slice none 0 0, .slice none 0 0, .slice none 0 0] := Box.ext (by rw [HW0.out]; exact Box.new w _ _) (tiedW_ext W0)
  have m0 := (hb0.cell 0).trans rfl; have m1 := (hb0.cell 1).trans rfl; have m2 := (hb0.cell 2).trans rfl; have m3 := (hb0.cell 3).trans rfl
  simp only [List.getElem?_cons_zero, List.getElem?_cons_succ] at m0 m1 m2 m3
  have f0 := hb0.free
  obtain ⟨b0, b1, b2, b3⟩ := HB.out
  clear hb0
  have HQ : Hid (((((tiedW W0).setCell ⟨w.heap.size, 0, none⟩ (I 1)).setCell ⟨w.heap.size, 1, none⟩ (.slice (some ⟨W0.heap.size + 8, 0, none⟩) 10 10)).setCell ⟨w.heap.size, 2, none⟩ (.slice (some ⟨W0.heap.size + 9, 0, none⟩) 1 1)).setCell ⟨w.heap.size, 3, none⟩ (.slice (some ⟨W0.heap.size + 10, 0, none⟩) 2 2) = tiedW (w.alloc (.cells #[I 1, .slice (some ⟨W0.heap.size + 8, 0, none⟩) 10 10, .slice (some ⟨W0.heap.size + 9, 0, none⟩) 1 1, .slice (some ⟨W0.heap.size + 10, 0, none⟩) 2 2] 26))) := by
    unfold Hid
    have := HO.out
    rw [show w.alloc (.cells zeroNet 26) = W0 from HW0.out.symm] at this
    exact this
  clear HO HC HB
  generalize hWT : tiedW W0 = WT at *
  have HWT := Lib.hid hWT; clear hWT
  go_wp2
  rw [HQ.out]
  clear HQ m0 m1 m2 m3 f0 b0 b1 b2 b3
  have hC := tiedC (w.alloc (.cells #[I 1, .slice (some ⟨W0.heap.size + 8, 0, none⟩) 10 10, .slice (some ⟨W0.heap.size + 9, 0, none⟩) 1 1, .slice (some ⟨W0.heap.size + 10, 0, none⟩) 2 2] 26))
  have hb : Box (tiedW (w.alloc (.cells #[I 1, .slice (some ⟨W0.heap.size + 8, 0, none⟩) 10 10, .slice (some ⟨W0.heap.size + 9, 0, none⟩) 1 1, .slice (some ⟨W0.heap.size + 10, 0, none⟩) 2 2] 26))) w.heap.size 26 [I 1, .slice (some ⟨W0.heap.size + 8, 0, none⟩) 10 10, .slice (some ⟨W0.heap.size + 9, 0, none⟩) 1 1, .slice (some ⟨W0.heap.size + 10, 0, none⟩) 2 2] := Box.ext (Box.new w _ _) (tiedW_ext _)
  have hx := HX0.out
  rw [World.size_alloc, ← HS.out] at hC
  generalize tiedW (w.alloc (.cells #[I 1, .slice (some ⟨W0.heap.size + 8, 0, none⟩) 10 10, .slice (some ⟨W0.heap.size + 9, 0, none⟩) 1 1, .slice (some ⟨W0.heap.size + 10, 0, none⟩) 2 2] 26)) = WF at *
  refine bodyPost_ret (v := tiedV W0.heap.size) ?_ rfl ⟨_, rfl, hC, hx⟩
  have m0 := (hb.cell 0).trans rfl; have m1 := (hb.cell 1).trans rfl; have m2 := (hb.cell 2).trans rfl; have m3 := (hb.cell 3).trans rfl
  simp only [List.getElem?_cons_zero, List.getElem?_cons_succ] at m0 m1 m2 m3
  clear hC hx HX0 hb
  simp [results, Try.results88, go_sem, m0, m1, m2, m3]

/-! literals of words -/
theorem SlRowsF.new2 (w : World) (b : Nat) (hb : b = w.heap.size) (A1 A2 : Option Addr) (r1 r2 : List (BitVec 64)) (n1 n2 : Nat) (h1 : Sl w A1 n1 (r1.map U)) (h2 : Sl w A2 n2 (r2.map U)) (t : TypeId) (m1 : n1 ≤ 1000) (m2 : n2 ≤ 1000) :
    SlRowsF U (w.alloc (.cells #[.slice A1 n1 n1, .slice A2 n2 n2] t)) (some ⟨b, 0, none⟩) 2 [r1, r2] := by
  subst hb
  have e1 : r1.length = n1 := h1.len
  have e2 : r2.length = n2 := h2.len
  subst e1; subst e2
  have cell : ∀ (j : Nat) (v : Value), #[Value.slice A1 r1.length r1.length, .slice A2 r2.length r2.length][j]? = some v → (w.alloc (.cells #[.slice A1 r1.length r1.length, .slice A2 r2.length r2.length] t)).cell? ⟨w.heap.size, 0 + j, none⟩ = some v := fun j v h => by
    rw [Nat.zero_add, World.cell?_alloc_new]; exact h
  refine ⟨rfl, fun j r hr => ?_⟩
  rcases j with _ | _ | j
  · injection hr with e; subst e
    exact ⟨_, _, _, _, rfl, cell 0 _ rfl, h1.keep (Keeps.alloc _ _), Nat.le_refl _, ml_small m1⟩
  · injection hr with e; subst e
    exact ⟨_, _, _, _, rfl, cell 1 _ rfl, h2.keep (Keeps.alloc _ _), Nat.le_refl _, ml_small m2⟩
  · simp at hr
theorem sameW_lit (A B : Option Addr) (n c d : Nat) (xs : List (BitVec 64)) (Q : World) (h : Sl Q A n (xs.map U)) (h' : Sl Q B n (xs.map U)) (hn : n ≤ 1000) : Calls Try.prog 44 #[.slice A n c, .slice B n d] Q fun e w' => e = .returned (.bool true) ∧ Ext Q w' :=
  (sameWords_any A B n n c d xs xs Q h h' (ml_small hn) (ml_small hn)).mono fun e w' ⟨he, m, hm⟩ => ⟨by rw [he]; simp, by rw [hm]; exact (Ext.refl Q).drewN m⟩
section
variable {i : Int} {GA : Option Addr} {gn gc : Nat} {RA : Option Addr} {rn rc : Nat} {OA : Option Addr} {on oc : Nat} {N : NetM} {w : World}
theorem packStep_lit (RB : Option Addr) (pn pc : Nat) (IA : Option Addr) (jn jc : Nat) (regs ins vs us : List (BitVec 64)) (x : Int) (n m : Nat) (hn : vs.length = n) (hm : us.length = m) (hE : packE N regs.length ins.length = x) (hV : packV N regs ins = (vs, us)) (h : NetC w i GA gn gc RA rn rc OA on oc N)
    (hr : Sl w RB pn (regs.map U)) (hi : Sl w IA jn (ins.map U)) (hpm : pn ≤ 1000) (hjm : jn ≤ 1000) :
    Calls Try.prog 41 #[netV i GA gn gc RA rn rc OA on oc, .slice RB pn pc, .slice IA jn jc] w fun e w' => ∃ A c B d, e = .returned (Pr3 (.slice A n c) (.slice B m d) (I x)) ∧ Sl w' A n (vs.map U) ∧ Sl w' B m (us.map U) ∧ Ext w w' :=
  (packStep_any i GA gn gc RA rn rc OA on oc N RB pn pc IA jn jc regs ins w h hr hi (ml_small hpm) (ml_small hjm)).mono fun e w' ⟨vo, vn, he, h1, h2, h3⟩ => by
    rw [hV] at h1 h2
    rw [hE] at he
    simp only [hn] at h1
    simp only [hm] at h2
    obtain ⟨A, c, rfl, -, -, s1⟩ := own_sl h1
    obtain ⟨B, d, rfl, -, -, s2⟩ := own_sl h2
    exact ⟨A, c, B, d, he, s1, s2, h3⟩
theorem packRun_lit (A : Option Addr) (n c : Nat) (rows out : List (List (BitVec 64))) (x : Int) (m : Nat) (hm : out.length = m) (hE : prunE N rows = x) (hV : prunV N rows = out) (h : NetC w i GA gn gc RA rn rc OA on oc N) (hl : SlRowsF U w A n rows) (hn : n ≤ 1000) :
    Calls Try.prog 45 #[netV i GA gn gc RA rn rc OA on oc, .slice A n c] w fun e w' => ∃ B d, e = .returned (Pr (.slice B m d) (I x)) ∧ SlRowsF U w' B m out ∧ Ext w w' :=
  (packRun_any i GA gn gc RA rn rc OA on oc N A n c rows w h hl (ml_small hn)).mono fun e w' ⟨vr, vs, he, h1, h2⟩ => by
    rw [hV] at h1
    rw [hE] at he
    obtain ⟨B, d, rfl, -, -, hs⟩ := h1.slice
    rw [hm] at he hs
    exact ⟨B, d, he, hs, h2⟩
end
set_option maxRecDepth 100000 in
set_option maxHeartbeats 8000000 in
theorem packBegun_any (w : World) : Calls Try.prog 43 #[] w fun e w' => e = .returned (.bool true) ∧ Ext w w' := by
  go_enter Try.func43, Try.ntmps43
  go_wp2_with fail
  refine (tied_ok w).mono ?_; rintro e w1 ⟨n1, rfl, hn, x1⟩
  have HN := Lib.hid hn; have X := Lib.hid x1; clear hn x1
  go_wp2_with fail
  refine (packStep_lit _ 1 1 _ 1 1 [6#64] [5#64] [3#64, 6#64] [3#64] 0 2 1 rfl rfl (by decide +kernel) (by decide +kernel) ((HN.out.keep (Keeps.alloc _ _)).keep (Keeps.alloc _ _)) ((Sl.newAt _ _ [U 6#64] _ rfl).keep (Keeps.alloc _ _)) (Sl.newAt _ _ [U 5#64] _ (by simp)) (by omega) (by omega)).mono ?_
  rintro e w2 ⟨A1, c1, B1, d1, rfl, s1, s2, x2⟩
  have X2 := Lib.hid (((X.out.alloc _).alloc _).trans x2); have S1 := Lib.hid s1; have S2 := Lib.hid s2; clear s1 s2 x2 HN X
  go_wp2_with fail
  refine (tied_ok w2).mono ?_; rintro e w3 ⟨n3, rfl, hn, x3⟩
  have HN := Lib.hid hn; have X3 := Lib.hid (X2.out.trans x3); have S1' := Lib.hid (S1.out.keep x3.keeps); have S2' := Lib.hid (S2.out.keep x3.keeps); clear hn x3 S1 S2 X2
  go_wp2_with fail
  have hext3 := (((Ext.refl w3).alloc (.cells #[.int .u64 5] 79)).alloc (.cells #[.int .u64 1] 79)).alloc (.cells #[.slice (some ⟨w3.heap.size, 0, none⟩) 1 1, .slice (some ⟨w3.heap.size + 1, 0, none⟩) 1 1] 48)
  refine (packRun_lit _ 2 2 [[5#64], [1#64]] [[5#64, 0#64], [4#64, 5#64]] 0 2 rfl (by decide +kernel) (by decide +kernel) (HN.out.keep hext3.keeps) (SlRowsF.new2 _ _ (by simp) _ _ [5#64] [1#64] 1 1 ((Sl.newAt _ _ [U 5#64] _ rfl).keep (Keeps.alloc _ _)) (Sl.newAt _ _ [U 1#64] _ (by simp)) _ (by omega) (by omega)) (by omega)).mono ?_
  rintro e w4 ⟨L, lc, rfl, sl, x4⟩
  have x34 := hext3.trans x4
  have X4 := Lib.hid (X3.out.trans x34); have S1 := Lib.hid (S1'.out.keep x34.keeps); have S2 := Lib.hid (S2'.out.keep x34.keeps); have SL := Lib.hid sl; clear sl x4 x34 hext3 HN X3 S1' S2'
  go_wp2_with fail
  refine (tied_ok w4).mono ?_; rintro e w5 ⟨n5, rfl, hn, x5⟩
  have HN := Lib.hid hn; have X5 := Lib.hid (X4.out.trans x5); have S1' := Lib.hid (S1.out.keep x5.keeps); have S2' := Lib.hid (S2.out.keep x5.keeps); have SL' := Lib.hid (SL.out.keep x5.keeps); clear hn x5 S1 S2 SL X4
  go_wp2_with fail
  refine (packStep_lit _ 0 0 _ 1 1 [] [5#64] [] [] 1 0 0 rfl rfl (by decide +kernel) (by decide +kernel) (HN.out.keep (Keeps.alloc _ _)) (Sl.nil _ _) (Sl.newAt _ _ [U 5#64] _ rfl) (by omega) (by omega)).mono ?_
  rintro e w6 ⟨A6, c6, B6, d6, rfl, -, -, x6⟩
  have x56 := ((Ext.refl w5).alloc (.cells #[.int .u64 5] 79)).trans x6
  have X6 := Lib.hid (X5.out.trans x56); have S1 := Lib.hid (S1'.out.keep x56.keeps); have S2 := Lib.hid (S2'.out.keep x56.keeps); have SL := Lib.hid (SL'.out.keep x56.keeps); clear x6 x56 HN X5 S1' S2' SL'
  go_wp2_with fail
  refine (knot_ok w6).mono ?_; rintro e w7 ⟨n7, rfl, hn, x7⟩
  have HN := Lib.hid hn; have X7 := Lib.hid (X6.out.trans x7); have S1' := Lib.hid (S1.out.keep x7.keeps); have S2' := Lib.hid (S2.out.keep x7.keeps); have SL' := Lib.hid (SL.out.keep x7.keeps); clear hn x7 S1 S2 SL X6
  go_wp2_with fail
  refine (packRun_lit none 0 0 [] [] 5 0 rfl (by decide +kernel) (by decide +kernel) HN.out (SlRowsF.nil _ _ _) (by omega)).mono ?_
  rintro e w8 ⟨L8, c8, rfl, -, x8⟩
  have X8 := Lib.hid (X7.out.trans x8); have S1 := Lib.hid (S1'.out.keep x8.keeps); have S2 := Lib.hid (S2'.out.keep x8.keeps); have SL := Lib.hid (SL'.out.keep x8.keeps); clear x8 HN X7 S1' S2' SL'
  go_wp2_with fail
  refine (sameW_lit _ _ 2 _ _ [3#64, 6#64] _ (S1.out.keep (Keeps.alloc _ _)) (Sl.newAt _ _ [U 3#64, U 6#64] _ rfl) (by omega)).mono ?_; rintro e w9 ⟨rfl, x9⟩
  have x89 := ((Ext.refl w8).alloc (.cells #[.int .u64 3, .int .u64 6] 79)).trans x9
  have X9 := Lib.hid (X8.out.trans x89); have S2' := Lib.hid (S2.out.keep x89.keeps); have SL' := Lib.hid (SL.out.keep x89.keeps); clear x9 x89 X8 S1 S2 SL
  go_wp2_with fail
  refine (sameW_lit _ _ 1 _ _ [3#64] _ (S2'.out.keep (Keeps.alloc _ _)) (Sl.newAt _ _ [U 3#64] _ rfl) (by omega)).mono ?_; rintro e w10 ⟨rfl, x10⟩
  have x910 := ((Ext.refl w9).alloc (.cells #[.int .u64 3] 79)).trans x10
  have X10 := Lib.hid (X9.out.trans x910)
  obtain ⟨b, off, A', c', r, rfl, hc, hs, -, -, -, hr⟩ := (SL'.out.keep x910.keeps).next (show 1 < 2 by omega)
  obtain rfl := Option.some.inj hr
  have HS := Lib.hid hs
  clear x10 x910 X9 S2' SL' hs hr
  go_wp2_with fail
  refine (sameW_lit _ _ 2 _ _ [4#64, 5#64] _ (HS.out.keep (Keeps.alloc _ _)) (Sl.newAt _ _ [U 4#64, U 5#64] _ rfl) (by omega)).mono ?_; rintro e w11 ⟨rfl, x11⟩
  go_wp2
  go_ret
  exact ⟨rfl, (X10.out.alloc _).trans x11⟩
end Go.Proofs.Ytjagbnaacfhokaa
/- The bodies of PackSteps and PackRuns, from the contracts. -/
namespace Go.Proofs.Ytjagbnaacfhokaa
set_option linter.unusedVariables false
set_option linter.unusedSimpArgs false
open Go.RowKit

section
variable (i : Int) (GA : Option Addr) (gn gc : Nat) (RA : Option Addr) (rn rc : Nat) (OA : Option Addr) (on oc : Nat) (N : NetM)
set_option maxHeartbeats 4000000 in
theorem packSteps_walk (RB : Option Addr) (pn pc : Nat) (IA : Option Addr) (jn jc : Nat) (regs ins : List (BitVec 64)) (w : World) (h : NetC w i GA gn gc RA rn rc OA on oc N) (hr : Sl w RB pn (regs.map U)) (hi : Sl w IA jn (ins.map U)) (hpm : pn ≤ maxLen) (hjm : jn ≤ maxLen) (hlo : -9223372036854775808 ≤ i) :
    Calls Try.prog 10 #[netV i GA gn gc RA rn rc OA on oc, .slice RB pn pc, .slice IA jn jc] w fun e w' => e = .returned (.bool true) ∧ Ext w w' := by
  obtain ⟨W, hW⟩ : ∃ W, W = w.alloc (.cells #[I i, .slice GA gn gc, .slice RA rn rc, .slice OA on oc] 26) := ⟨_, rfl⟩
  have hxW : Ext w W := by rw [hW]; exact (Ext.refl _).alloc _
  have hbox : NetBox W w.heap.size i GA gn gc RA rn rc OA on oc := by rw [hW]; exact NetBox.new w i GA gn gc RA rn rc OA on oc _
  have HN := Lib.hid (h.keep hxW.keeps); have HBox := Lib.hid hbox; have HW := Lib.hid hW; have HX := Lib.hid hxW
  have HR := Lib.hid (hr.keep hxW.keeps); have HI := Lib.hid (hi.keep hxW.keeps)
  clear h hW hxW hbox hr hi
  go_enter Try.func10, Try.ntmps10
  go_wp2_with fail
  rw [← HW.out]
  refine (packStep_any i GA gn gc RA rn rc OA on oc N RB pn pc IA jn jc regs ins W HN.out HR.out HI.out hpm hjm).mono ?_; rintro e w1 ⟨vo, vn, rfl, o1, o2, x1⟩
  obtain ⟨A, c, rfl, h1, h2, s1⟩ := own_sl o1
  obtain ⟨B, d, rfl, h3, h4, s2⟩ := own_sl o2
  obtain ⟨q0, q1, q2, q3⟩ := HBox.out.keep x1.keeps
  generalize hV : packV N regs ins = V at *
  generalize hE : packE N regs.length ins.length = E at *
  have HV := Lib.hid hV; have HE := Lib.hid hE
  have X1 := Lib.hid x1; have S1 := Lib.hid s1; have S2 := Lib.hid s2; have L1 := Lib.hid (Nat.le_trans h1 h2); have L2 := Lib.hid (Nat.le_trans h3 h4); clear x1 s1 s2 o1 o2 hV hE h1 h2 h3 h4
  go_wp2_with fail
  refine (packStepOf_any i GA gn gc RA rn rc OA on oc N RB pn pc IA jn jc regs ins w1 (HN.out.keep X1.out.keeps) (HR.out.keep X1.out.keeps) (HI.out.keep X1.out.keeps) hpm hjm hlo).mono ?_; rintro e w2 ⟨vo, vn, rfl, o1, o2, x2⟩
  rw [HV.out] at o1 o2
  rw [HE.out]
  obtain ⟨A', c', rfl, -, -, s1⟩ := own_sl o1
  obtain ⟨B', d', rfl, -, -, s2⟩ := own_sl o2
  have X2 := Lib.hid (X1.out.trans x2); have T1 := Lib.hid s1; have T2 := Lib.hid s2; have S1' := Lib.hid (S1.out.keep x2.keeps); have S2' := Lib.hid (S2.out.keep x2.keeps); clear x2 s1 s2 o1 o2 S1 S2 q0 q1 q2 q3
  go_wp2_with fail
  refine (packBegun_any w2).mono ?_; rintro e w3 ⟨rfl, x3⟩
  have X3 := Lib.hid (X2.out.trans x3); have T1' := Lib.hid (T1.out.keep x3.keeps); have T2' := Lib.hid (T2.out.keep x3.keeps); have S1 := Lib.hid (S1'.out.keep x3.keeps); have S2 := Lib.hid (S2'.out.keep x3.keeps); clear x3 T1 T2 S1' S2'
  go_wp2_with fail
  refine (sameWords_any A A' V.1.length V.1.length c c' V.1 V.1 w3 S1.out T1'.out L1.out L1.out).mono ?_; rintro e w4 ⟨rfl, m, rfl⟩
  rw [decide_eq_true (rfl : V.1 = V.1)]
  go_wp2_with fail
  refine (sameWords_any B B' V.2.length V.2.length d d' V.2 V.2 (w3.drewN m) (S2.out.keep (Keeps.drewN _ _)) (T2'.out.keep (Keeps.drewN _ _)) L2.out L2.out).mono ?_; rintro e w5 ⟨rfl, m2, rfl⟩
  rw [decide_eq_true (rfl : V.2 = V.2)]
  go_wp2
  go_ret
  exact ⟨by simp, (HX.out.trans X3.out).drewN _⟩
set_option maxHeartbeats 4000000 in
theorem packRuns_walk (A : Option Addr) (n c : Nat) (rows : List (List (BitVec 64))) (w : World) (h : NetC w i GA gn gc RA rn rc OA on oc N) (hl : SlRowsF U w A n rows) (hn : n ≤ maxLen) (hlo : -9223372036854775808 ≤ i) :
    Calls Try.prog 11 #[netV i GA gn gc RA rn rc OA on oc, .slice A n c] w fun e w' => e = .returned (.bool true) ∧ Ext w w' := by
  obtain ⟨W, hW⟩ : ∃ W, W = w.alloc (.cells #[I i, .slice GA gn gc, .slice RA rn rc, .slice OA on oc] 26) := ⟨_, rfl⟩
  have hxW : Ext w W := by rw [hW]; exact (Ext.refl _).alloc _
  have hbox : NetBox W w.heap.size i GA gn gc RA rn rc OA on oc := by rw [hW]; exact NetBox.new w i GA gn gc RA rn rc OA on oc _
  have HN := Lib.hid (h.keep hxW.keeps); have HBox := Lib.hid hbox; have HW := Lib.hid hW; have HX := Lib.hid hxW
  have HL := Lib.hid (hl.keep hxW.keeps)
  clear h hW hxW hbox hl
  go_enter Try.func11, Try.ntmps11
  go_wp2_with fail
  rw [← HW.out]
  refine (packRun_any i GA gn gc RA rn rc OA on oc N A n c rows W HN.out HL.out hn).mono ?_; rintro e w1 ⟨vr, vs, rfl, o1, x1⟩
  obtain ⟨B, d, rfl, h1, h2, s1⟩ := o1.slice
  obtain ⟨q0, q1, q2, q3⟩ := HBox.out.keep x1.keeps
  generalize hV : prunV N rows = V at *
  generalize hE : prunE N rows = E at *
  have HV := Lib.hid hV; have HE := Lib.hid hE
  have hvl : V.length ≤ maxLen := Nat.le_trans h1 h2
  unfold maxLen at hvl
  have X1 := Lib.hid x1; have S1 := Lib.hid s1; clear x1 s1 o1 hV hE h1 h2
  go_wp2_with fail
  refine (packRunOf_any i GA gn gc RA rn rc OA on oc N A n c rows w1 (HN.out.keep X1.out.keeps) (HL.out.keep X1.out.keeps) hn hlo).mono ?_; rintro e w2 ⟨vr, vs, rfl, o1, x2⟩
  rw [HV.out] at o1
  rw [HE.out]
  obtain ⟨B', d', rfl, -, -, s1⟩ := o1.slice
  have X2 := Lib.hid (X1.out.trans x2); have T1 := Lib.hid s1; have S1' := Lib.hid (S1.out.keep x2.keeps); clear x2 s1 o1 S1 q0 q1 q2 q3
  go_wp2_with fail
  go_loopw [9] (fun j wr => ∃ (q : Nat), q ≤ V.length ∧ j = .int .i64 q ∧ Ext w2 wr) (fun j _ => V.length - (intOf j).toNat)
  case atStart => exact ⟨0, Nat.zero_le _, rfl, Ext.refl _⟩
  case round =>
    obtain ⟨q, hq, rfl, hext⟩ := hrel
    by_cases hlt : q < V.length
    · obtain ⟨b, off, A1, k1, x, rfl, hcx, hsx, l1, l2, -, hxm⟩ := (S1'.out.keep hext.keeps).next hlt
      obtain ⟨b', off', A2, k2, y, rfl, hcy, hsy, -, -, -, hym⟩ := (T1.out.keep hext.keeps).next hlt
      obtain rfl : x = y := by rw [hxm] at hym; exact Option.some.inj hym
      have hsw : ∀ Q, Ext wr Q → Calls Try.prog 44 #[.slice A1 x.length k1, .slice A2 x.length k2] Q fun e w' => e = .returned (.bool true) ∧ Ext Q w' := fun Q hQ =>
        (sameWords_any A1 A2 x.length x.length k1 k2 x x Q (hsx.keep hQ.keeps) (hsy.keep hQ.keeps) (Nat.le_trans l1 l2) (Nat.le_trans l1 l2)).mono fun e w' ⟨he, m, hm⟩ => ⟨by rw [he]; simp, by rw [hm]; exact (Ext.refl Q).drewN m⟩
      have SW := Lib.hid hsw; have HE2 := Lib.hid hext; have CX := Lib.hid hcx; have CY := Lib.hid hcy
      clear hsx hsy hext hxm hym l1 l2 hsw hcx hcy
      go_wp2_with fail
      refine wp_flow3 10 0 [isV (.slice (some ⟨b, off, none⟩) V.length d), isV (.int .i64 q), isV (.pointer (some ⟨b, off + q, none⟩)), isV (.slice A1 x.length k1), isV (.slice (some ⟨b', off', none⟩) V.length d'), isV (.int .i64 q), isV (.pointer (some ⟨b', off' + q, none⟩)), isV (.slice A2 x.length k2), isV (.bool true), isV (.bool false)] (by kernel_rfl) rfl rfl (by kernel_rfl) (by kernel_rfl) ⟨isV_mono, isV_mono, isV_mono, isV_mono, isV_mono, isV_mono, isV_mono, isV_mono, isV_mono, isV_mono, trivial⟩ ?each ?rest
      case each =>
        refine .cons ?_ (.cons ?_ (.cons ?_ (.cons ?_ (.cons ?_ (.cons ?_ (.cons ?_ (.cons ?_ (.cons ?_ (.cons ?_ (.nil))))))))))
        · intro fa fw hx hs hb
          have s5 : fa.tmps[(5 : Nat)]? = some (.slice (some ⟨b, off, none⟩) V.length d) := (hb 5 (by kernel_rfl)).trans (by rfl)
          refine .inl ⟨wanted_free rfl, fun K hK => ?_⟩
          clear hs hb hx
          go_simp
          exact hK _ _ rfl (Ext.refl _)
        · intro fa fw hx hs hb
          have s9 : fa.tmps[(9 : Nat)]? = some (.int .i64 q) := (hb 9 (by kernel_rfl)).trans (by rfl)
          refine .inl ⟨wanted_free rfl, fun K hK => ?_⟩
          clear hs hb hx
          go_simp
          exact hK _ _ rfl (Ext.refl _)
        · intro fa fw hx hs hb
          obtain ⟨_, s38, rfl⟩ := hs 0 38 (by kernel_rfl) (by kernel_rfl)
          obtain ⟨_, s39, rfl⟩ := hs 1 39 (by kernel_rfl) (by kernel_rfl)
          refine .inl ⟨wanted_free rfl, fun K hK => ?_⟩
          clear hs hb hx
          go_simp
          exact hK _ _ rfl (Ext.refl _)
        · intro fa fw hx hs hb
          obtain ⟨_, s40, rfl⟩ := hs 2 40 (by kernel_rfl) (by kernel_rfl)
          have c0 := hx.keeps _ _ CX.out
          refine .inl ⟨wanted_free rfl, fun K hK => ?_⟩
          clear hs hb hx
          go_simp
          exact hK _ _ rfl (Ext.refl _)
        · intro fa fw hx hs hb
          have s7 : fa.tmps[(7 : Nat)]? = some (.slice (some ⟨b', off', none⟩) V.length d') := (hb 7 (by kernel_rfl)).trans (by rfl)
          refine .inl ⟨wanted_free rfl, fun K hK => ?_⟩
          clear hs hb hx
          go_simp
          exact hK _ _ rfl (Ext.refl _)
        · intro fa fw hx hs hb
          have s9 : fa.tmps[(9 : Nat)]? = some (.int .i64 q) := (hb 9 (by kernel_rfl)).trans (by rfl)
          refine .inl ⟨wanted_free rfl, fun K hK => ?_⟩
          clear hs hb hx
          go_simp
          exact hK _ _ rfl (Ext.refl _)
        · intro fa fw hx hs hb
          obtain ⟨_, s42, rfl⟩ := hs 4 42 (by kernel_rfl) (by kernel_rfl)
          obtain ⟨_, s43, rfl⟩ := hs 5 43 (by kernel_rfl) (by kernel_rfl)
          refine .inl ⟨wanted_free rfl, fun K hK => ?_⟩
          clear hs hb hx
          go_simp
          exact hK _ _ rfl (Ext.refl _)
        · intro fa fw hx hs hb
          obtain ⟨_, s44, rfl⟩ := hs 6 44 (by kernel_rfl) (by kernel_rfl)
          have c0 := hx.keeps _ _ CY.out
          refine .inl ⟨wanted_free rfl, fun K hK => ?_⟩
          clear hs hb hx
          go_simp
          exact hK _ _ rfl (Ext.refl _)
        · intro fa fw hx hs hb
          obtain ⟨_, s41, rfl⟩ := hs 3 41 (by kernel_rfl) (by kernel_rfl)
          obtain ⟨_, s45, rfl⟩ := hs 7 45 (by kernel_rfl) (by kernel_rfl)
          refine .inl ⟨wanted_free rfl, fun K hK => ?_⟩
          clear hs hb
          go_simp
          refine (SW.out fw hx).mono ?_
          rintro e w' ⟨rfl, xq⟩
          exact hK _ _ rfl xq
        · intro fa fw hx hs hb
          obtain ⟨_, s46, rfl⟩ := hs 8 46 (by kernel_rfl) (by kernel_rfl)
          refine .inl ⟨wanted_free rfl, fun K hK => ?_⟩
          clear hs hb hx
          go_simp
          exact hK _ _ rfl (Ext.refl _)
      case rest =>
        intro w2q hxw2
        rintro _ rfl
        rintro _ rfl
        rintro _ rfl
        rintro _ rfl
        rintro _ rfl
        rintro _ rfl
        rintro _ rfl
        rintro _ rfl
        rintro _ rfl
        rintro _ rfl
        simp only [putAll, List.take, Act.put, List.setIfInBounds_toArray, List.set_cons_zero, List.set_cons_succ]
        refine wpAny_done (by kernel_rfl) ?_ _
        go_wp2
        go_roundw
        case rel => exact ⟨q + 1, by omega, by go_num, HE2.out.trans hxw2⟩
        case measure => simp [intOf]; omega
    · obtain rfl : q = V.length := by omega
      have X3 := Lib.hid (X2.out.trans hext)
      clear hext
      go_wp2_with fail
      refine (packBegun_any wr).mono ?_; rintro e w3 ⟨rfl, x3⟩
      go_wp2
      go_ret
      exact ⟨by simp, HX.out.trans (X3.out.trans x3)⟩
end
end Go.Proofs.Ytjagbnaacfhokaa
/- choose: a place among n, from a raw number. -/
namespace Go.Proofs.Ytjagbnaacfhokaa
set_option linter.unusedVariables false
set_option linter.unusedSimpArgs false
open Go.RowKit

/-- choose: the raw number's place among n. -/
def chooseM (c n : Int) : Int := (if c < 0 then -(c + 1) else c) % n
theorem choose_any (c : Int) (n : Nat) (w : World) (hn : 0 < n) (hn2 : n ≤ 9223372036854775807) (hc1 : -9223372036854775808 ≤ c) (hc2 : c ≤ 9223372036854775807) :
    Calls Try.prog 28 #[I c, I n] w fun e w' => e = .returned (I (chooseM c n)) ∧ w = w' := by
  have hn0 : (0 : Int) < (n : Int) := by omega
  by_cases h : c < 0
  · have HM : Hid (-((c + 1).tmod n) = chooseM c n) := by
      unfold Hid chooseM; rw [if_pos h, ← Int.neg_tmod, Int.tmod_eq_emod_of_nonneg (by omega)]
    go_enter Try.func28, Try.ntmps28
    go_wp2
    go_ret; exact ⟨ret_int HM.out, rfl⟩
  · have HM : Hid (c % n = chooseM c n) := by unfold Hid chooseM; rw [if_neg h]
    go_enter Try.func28, Try.ntmps28
    go_wp2
    go_ret; exact ⟨ret_int HM.out, rfl⟩
theorem choose_range (c : Int) (n : Nat) (hn : 0 < n) : 0 ≤ chooseM c n ∧ chooseM c n < n :=
  ⟨Int.emod_nonneg _ (by omega), Int.emod_lt_of_pos _ (by omega)⟩

end Go.Proofs.Ytjagbnaacfhokaa
/- The body of PackSame, from the contracts. -/
namespace Go.Proofs.Ytjagbnaacfhokaa
set_option linter.unusedVariables false
set_option linter.unusedSimpArgs false
open Go.RowKit

/-- When Run of words answers, each lane is a run of its own. -/
theorem lane_run {N : NetM} {rows : List (List (BitVec 64))} (h : prunE N rows = 0) {k : Nat} (hk : k < 64) :
    (∀ r ∈ rows, r.length ≤ 3) ∧ rows.length ≤ 60 ∧ (prunV N rows).length = rows.length ∧ runE N (rows.map (packX k)) = 0 ∧ (runV N (rows.map (packX k))).1 = (prunV N rows).map (laneI k) := by
  have hV : prunV N rows = runW N (firstW N) rows := by unfold prunV; rw [if_pos h]
  unfold prunE at h
  by_cases h0 : (orderV N).2 = 0
  · rw [if_neg (by simp [h0])] at h
    obtain ⟨ok, hc, l, hO, -⟩ := orderV_ok h0
    by_cases h1 : 60 < rows.length
    · rw [if_pos h1] at h; cases h
    · rw [if_neg h1] at h
      by_cases h2 : rows.any (badRow N.ins) = true
      · rw [if_pos h2] at h; cases h
      · have hl : ∀ r ∈ rows, (r.length : Int) = N.ins := fun r hr => by
          by_cases e : badRow N.ins r = true
          · exact absurd (List.any_eq_true.2 ⟨r, hr, e⟩) h2
          · unfold badRow at e; simpa using e
        have hrun := run_lane ok hO hk rows (firstW N) hl
        rw [first_lane hk] at hrun
        have ht : timesM (rows.map (packX k)) N.ins.toNat = 0 := by
          unfold timesM
          rw [if_neg (by simp; omega), if_neg]
          intro e
          obtain ⟨x, hx, hb⟩ := List.any_eq_true.1 e
          obtain ⟨r, hr, rfl⟩ := List.mem_map.1 hx
          obtain ⟨p1, p2⟩ := packX_range k r
          have := hl r hr
          rw [show r.length = N.ins.toNat by omega] at p2
          unfold badTime at hb
          simp only [Bool.or_eq_true, decide_eq_true_eq] at hb
          omega
        have hE : runE N (rows.map (packX k)) = 0 := by
          unfold runE
          rw [if_neg (by simp [hc]), if_neg (by simp [ht]), hrun]; rfl
        refine ⟨fun r hr => by have := hl r hr; have := ok.ins3; omega, by omega, by rw [hV, runW_len], hE, ?_⟩
        unfold runV
        rw [if_pos hE, hrun, hV]; rfl
  · rw [if_pos h0] at h; exact absurd h h0
theorem map_nextI {l : List Int} {k : Nat} {x : Int} (h : l[k]? = some x) : (l.take (k + 1)).map I = (l.take k).map I ++ [I x] := by rw [List.take_add_one, h]; simp
section
variable (i : Int) (GA : Option Addr) (gn gc : Nat) (RA : Option Addr) (rn rc : Nat) (OA : Option Addr) (on oc : Nat) (N : NetM)
set_option maxRecDepth 100000 in
set_option maxHeartbeats 8000000 in
theorem packSame_walk (A : Option Addr) (n c : Nat) (rows : List (List (BitVec 64))) (kk : Int) (w : World) (h : NetC w i GA gn gc RA rn rc OA on oc N) (hl : SlRowsF U w A n rows) (hn : n ≤ maxLen) (hk1 : -9223372036854775808 ≤ kk) (hk2 : kk ≤ 9223372036854775807) :
    Calls Try.prog 24 #[netV i GA gn gc RA rn rc OA on oc, .slice A n c, I kk] w fun e w' => e = .returned (.bool true) ∧ Ext w w' := by
  obtain ⟨W, hW⟩ : ∃ W, W = w.alloc (.cells #[I i, .slice GA gn gc, .slice RA rn rc, .slice OA on oc] 26) := ⟨_, rfl⟩
  have hxW : Ext w W := by rw [hW]; exact (Ext.refl _).alloc _
  have hbox : NetBox W w.heap.size i GA gn gc RA rn rc OA on oc := by rw [hW]; exact NetBox.new w i GA gn gc RA rn rc OA on oc _
  have HN := Lib.hid (h.keep hxW.keeps); have HBox := Lib.hid hbox; have HW := Lib.hid hW; have HX := Lib.hid hxW
  have HL := Lib.hid (hl.keep hxW.keeps)
  have hrl : rows.length = n := hl.1
  obtain ⟨k, hk, hkc⟩ : ∃ k : Nat, k < 64 ∧ chooseM kk 64 = (k : Int) := by
    refine ⟨(chooseM kk 64).toNat, ?_, ?_⟩ <;> unfold chooseM <;> omega
  have hch : ∀ Q, Calls Try.prog 28 #[I kk, .int .i64 64] Q fun e w' => e = .returned (I (k : Nat)) ∧ Q = w' := fun Q => by rw [← hkc]; exact choose_any kk 64 Q (by omega) (by omega) hk1 hk2
  have CH := Lib.hid hch
  clear h hW hxW hbox hl hkc hch
  go_enter Try.func24, Try.ntmps24
  go_wp2_with fail
  rw [← HW.out]
  refine (packRun_any i GA gn gc RA rn rc OA on oc N A n c rows W HN.out HL.out hn).mono ?_; rintro e w1 ⟨vr, vs, rfl, o1, x1⟩
  obtain ⟨B, d, rfl, h1, h2, s1⟩ := o1.slice
  have X1 := Lib.hid x1; have S1 := Lib.hid s1
  by_cases he : prunE N rows = 0
  · obtain ⟨l3, l60, lV, hE, hR⟩ := lane_run he hk
    rw [he]
    generalize hV : prunV N rows = V at *
    rw [hrl] at lV l60
    have L3 := Lib.hid l3; have LV := Lib.hid lV; have HE := Lib.hid hE; have HR := Lib.hid hR; have HRL := Lib.hid hrl
    have hd2 : V.length ≤ d := h1
    have hd3 : d ≤ 9223372036854775807 := h2
    clear he hV l3 lV hE hR x1 s1 o1 h1 h2 hrl
    rw [LV.out] at hd2
    go_wp2_with fail
    refine (CH.out w1).mono ?_; rintro e w1' ⟨rfl, rfl⟩
    rw [LV.out]
    go_wp2_with fail
    go_loopw [10, 11] (fun s j wr => ∃ (t : Nat), t ≤ n ∧ j = .int .i64 t ∧ Ext w1 wr ∧ wr.ownsRow w1.heap.size 3 1 s t (((rows.map (packX k)).take t).map I)) (fun _ j _ => n - (intOf j).toNat)
    case atStart => exact ⟨0, Nat.zero_le _, rfl, Ext.refl _, World.ownsRow_nil _ _ _ _⟩
    case round =>
      obtain ⟨t, ht, rfl, hext, hown⟩ := hrel
      by_cases hlt : t < n
      · obtain ⟨b, off, A1, k1, r, rfl, hc0, hs, hr1, hr2, -, hrm⟩ := (HL.out.keep (X1.out.trans hext).keeps).next hlt
        have hr3 := L3.out r (List.mem_of_getElem? hrm)
        have HS := Lib.hid hs; have HO := Lib.hid hown; have HXT := Lib.hid hext
        have HRM := Lib.hid hrm
        clear hs hr1 hr2 hown hext hrm
        go_wp2_with fail
        obtain ⟨wi, hwi⟩ : ∃ q, q = wr := ⟨_, rfl⟩
        go_loopw [12, 13] (fun a j wr => ∃ (q : Nat), q ≤ r.length ∧ j = .int .i64 ((q : Int) - 1) ∧ a = .int .i64 (packX k (r.drop q)) ∧ wi = wr) (fun _ j _ => (intOf j + 1).toNat)
        case atStart => exact ⟨r.length, Nat.le_refl _, by first | rfl | go_num | simp, by rw [List.drop_length]; rfl, hwi⟩
        case round =>
          obtain ⟨q, hq, rfl, rfl, hwr⟩ := hrel
          subst hwr
          subst hwi
          rcases q with _ | p
          · have hxt : (rows.map (packX k))[t]? = some (packX k r) := by rw [List.getElem?_map, HRM.out]; rfl
            have HNX := Lib.hid (map_nextI hxt)
            rw [List.drop_zero]
            generalize packX k r = X at *
            clear hxt
            go_wp2_with (at_builtin; refine wpList_push rfl (.tmp 60) (.tmp 62) 24 3 rfl tab_int' Try.underlying24 rfl (by omega) w1 _ HXT.out _ t _ rfl HO.out [I X] rfl rfl rfl (by simp [Value.oneCell']) (by unfold maxLen; omega) (by omega) ?_; intro v' w2 hown2 hx3 _)
            go_roundw
            case rel => exact ⟨t + 1, by omega, by go_num, hx3, by rw [HNX.out]; exact hown2⟩
            case measure => simp [intOf]; omega
          · have hpl : p < r.length := hq
            obtain ⟨b2, off2, x, rfl, hc2, hx⟩ := HS.out.at_ hpl
            have hpx : packX k (r.drop p) = 2 * packX k (r.drop (p + 1)) + bitI k x := by
              have hg : r.drop p = x :: r.drop (p + 1) := by
                rw [List.drop_eq_getElem_cons hpl]
                congr 1
                rw [List.getElem?_eq_getElem hpl] at hx; exact Option.some.inj hx
              rw [hg]; rfl
            have hX : 0 ≤ packX k (r.drop (p + 1)) ∧ packX k (r.drop (p + 1)) < 8 := by
              obtain ⟨h1, h2⟩ := packX_range k (r.drop (p + 1))
              have : (2 : Int) ^ (r.drop (p + 1)).length ≤ 2 ^ 3 := by
                have hd : (r.drop (p + 1)).length ≤ 3 := by rw [List.length_drop]; omega
                exact_mod_cast Nat.pow_le_pow_right (by omega) hd
              omega
            have HPX := Lib.hid hpx
            obtain ⟨hX0, hX8⟩ := hX
            have hand := uI_lane x k
            have hbt := bitI_01 k x
            have hwr : IntKind.i64.wrap (bitI k x) = bitI k x := IntWalk.i64_in _ (by rcases hbt with e | e <;> omega)
            rw [show (((p + 1 : Nat) : Int) - 1) = (p : Int) from by omega]
            clear hpx hx
            generalize packX k (r.drop (p + 1)) = X at *
            have hwx : IntKind.i64.wrap (2 * X) = 2 * X := IntWalk.i64_in _ (by omega)
            have hwy : IntKind.i64.wrap (2 * X + bitI k x) = 2 * X + bitI k x := IntWalk.i64_in _ (by rcases hbt with e | e <;> omega)
            go_wp2
            go_roundw
            case rel => exact ⟨p, by omega, by rw [HPX.out]; exact ⟨rfl, rfl, trivial⟩⟩
            case measure => simp [intOf]
      · obtain rfl : n = t := by omega
        have ht2 : (rows.map (packX k)).take n = rows.map (packX k) := List.take_of_length_le (by rw [List.length_map, HRL.out]; exact Nat.le_refl _)
        rw [ht2] at hown
        obtain ⟨IA, ic, rfl, -, -, hs⟩ := own_sl hown
        have HS := Lib.hid hs
        obtain ⟨q0, q1, q2, q3⟩ := HBox.out.keep (X1.out.trans hext).keeps
        have XA := Lib.hid (X1.out.trans hext); have SA := Lib.hid (S1.out.keep hext.keeps)
        clear hs hown hext ht2 S1
        go_wp2_with fail
        clear q0 q1 q2 q3
        refine (run_any i GA gn gc RA rn rc OA on oc N IA n ic (rows.map (packX k)) wr (HN.out.keep XA.out.keeps) HS.out hn).mono ?_; rintro e w3 ⟨vo, vn, vs', rfl, ho, hn3, x3⟩
        rw [HE.out]
        obtain ⟨Ar, rc3, rfl, hr1, hr2, hs3⟩ := ho.slice
        rw [HR.out] at hs3 hr1 ⊢
        rw [List.length_map, LV.out] at hs3 hr1 ⊢
        obtain ⟨Br, rd3, rfl, -, -, -⟩ := own_sl hn3
        have XB := Lib.hid (XA.out.trans x3); have SB := Lib.hid (SA.out.keep x3.keeps); have SR := Lib.hid hs3
        have hrc2 : rc3 ≤ 9223372036854775807 := hr2
        have hrc1 : n ≤ rc3 := hr1
        clear ho hn3 x3 hs3 hr1 hr2 XA SA HS
        go_wp2_with fail
        go_loopw [17] (fun j wr => ∃ (t : Nat), t ≤ n ∧ j = .int .i64 t ∧ Ext w3 wr) (fun j _ => n - (intOf j).toNat)
        case atStart => exact ⟨0, Nat.zero_le _, rfl, Ext.refl _⟩
        case round =>
          obtain ⟨t, ht, rfl, hext⟩ := hrel
          by_cases hlt : t < n
          · obtain ⟨b, off, A1, k1, x, rfl, hcx, hsx, l1, l2, -, hxm⟩ := SB.out.next (show t < V.length by rw [LV.out]; exact hlt)
            obtain ⟨b', off', A2, k2, eR, hcy, hsy, l3, l4⟩ := SR.out.2 t (laneI k x) (by rw [List.getElem?_map, hxm]; rfl)
            subst eR
            rw [lane_len] at hcy hsy l3
            have CX := Lib.hid hcx; have CY := Lib.hid hcy; have SX := Lib.hid hsx; have SY := Lib.hid hsy
            have CXW := Lib.hid (hext.keeps _ _ hcx); have CYW := Lib.hid (hext.keeps _ _ hcy); have HE1 := Lib.hid hext
            have hl2 : k1 ≤ 9223372036854775807 := l2
            have hl4 : k2 ≤ 9223372036854775807 := l4
            clear hcx hcy hsx hsy hext hxm l2 l4
            go_wp2_with fail
            refine wp_flow3 11 0 [isV (.slice (some ⟨b, off, none⟩) n d), isV (.int .i64 t), isV (.pointer (some ⟨b, off + t, none⟩)), isV (.slice A1 x.length k1), isV (.int .i64 x.length), isV (.slice (some ⟨b', off', none⟩) n rc3), isV (.int .i64 t), isV (.pointer (some ⟨b', off' + t, none⟩)), isV (.slice A2 x.length k2), isV (.int .i64 x.length), isV (.bool false)] (by kernel_rfl) rfl rfl (by kernel_rfl) (by kernel_rfl) ⟨isV_mono, isV_mono, isV_mono, isV_mono, isV_mono, isV_mono, isV_mono, isV_mono, isV_mono, isV_mono, isV_mono, trivial⟩ ?each ?rest
            case each =>
              refine .cons ?_ (.cons ?_ (.cons ?_ (.cons ?_ (.cons ?_ (.cons ?_ (.cons ?_ (.cons ?_ (.cons ?_ (.cons ?_ (.cons ?_ (.nil)))))))))))
              · intro fa fw hx hs hb
                have s7 : fa.tmps[(7 : Nat)]? = some (.slice (some ⟨b, off, none⟩) n d) := (hb 7 (by kernel_rfl)).trans (by rfl)
                refine .inl ⟨wanted_free rfl, fun K hK => ?_⟩
                clear hs hb hx
                go_simp
                exact hK _ _ rfl (Ext.refl _)
              · intro fa fw hx hs hb
                have s17 : fa.tmps[(17 : Nat)]? = some (.int .i64 t) := (hb 17 (by kernel_rfl)).trans (by rfl)
                refine .inl ⟨wanted_free rfl, fun K hK => ?_⟩
                clear hs hb hx
                go_simp
                exact hK _ _ rfl (Ext.refl _)
              · intro fa fw hx hs hb
                obtain ⟨_, s86, rfl⟩ := hs 0 86 (by kernel_rfl) (by kernel_rfl)
                obtain ⟨_, s87, rfl⟩ := hs 1 87 (by kernel_rfl) (by kernel_rfl)
                refine .inl ⟨wanted_free rfl, fun K hK => ?_⟩
                clear hs hb hx
                go_simp
                exact hK _ _ rfl (Ext.refl _)
              · intro fa fw hx hs hb
                obtain ⟨_, s88, rfl⟩ := hs 2 88 (by kernel_rfl) (by kernel_rfl)
                have c0 := hx.keeps _ _ CXW.out
                refine .inl ⟨wanted_free rfl, fun K hK => ?_⟩
                clear hs hb hx
                go_simp
                exact hK _ _ rfl (Ext.refl _)
              · intro fa fw hx hs hb
                obtain ⟨_, s89, rfl⟩ := hs 3 89 (by kernel_rfl) (by kernel_rfl)
                refine .inl ⟨wanted_free rfl, fun K hK => ?_⟩
                clear hs hb
                go_simp
                exact hK _ _ rfl (Ext.refl _)
              · intro fa fw hx hs hb
                have s14 : fa.tmps[(14 : Nat)]? = some (.slice (some ⟨b', off', none⟩) n rc3) := (hb 14 (by kernel_rfl)).trans (by rfl)
                refine .inl ⟨wanted_free rfl, fun K hK => ?_⟩
                clear hs hb hx
                go_simp
                exact hK _ _ rfl (Ext.refl _)
              · intro fa fw hx hs hb
                have s17 : fa.tmps[(17 : Nat)]? = some (.int .i64 t) := (hb 17 (by kernel_rfl)).trans (by rfl)
                refine .inl ⟨wanted_free rfl, fun K hK => ?_⟩
                clear hs hb hx
                go_simp
                exact hK _ _ rfl (Ext.refl _)
              · intro fa fw hx hs hb
                obtain ⟨_, s91, rfl⟩ := hs 5 91 (by kernel_rfl) (by kernel_rfl)
                obtain ⟨_, s92, rfl⟩ := hs 6 92 (by kernel_rfl) (by kernel_rfl)
                refine .inl ⟨wanted_free rfl, fun K hK => ?_⟩
                clear hs hb hx
                go_simp
                exact hK _ _ rfl (Ext.refl _)
              · intro fa fw hx hs hb
                obtain ⟨_, s93, rfl⟩ := hs 7 93 (by kernel_rfl) (by kernel_rfl)
                have c0 := hx.keeps _ _ CYW.out
                refine .inl ⟨wanted_free rfl, fun K hK => ?_⟩
                clear hs hb hx
                go_simp
                exact hK _ _ rfl (Ext.refl _)
              · intro fa fw hx hs hb
                obtain ⟨_, s94, rfl⟩ := hs 8 94 (by kernel_rfl) (by kernel_rfl)
                refine .inl ⟨wanted_free rfl, fun K hK => ?_⟩
                clear hs hb
                go_simp
                exact hK _ _ rfl (Ext.refl _)
              · intro fa fw hx hs hb
                obtain ⟨_, s90, rfl⟩ := hs 4 90 (by kernel_rfl) (by kernel_rfl)
                obtain ⟨_, s95, rfl⟩ := hs 9 95 (by kernel_rfl) (by kernel_rfl)
                refine .inl ⟨wanted_free rfl, fun K hK => ?_⟩
                clear hs hb
                go_simp
                exact hK _ _ rfl (Ext.refl _)
            case rest =>
              intro wl hxwl
              rintro _ rfl
              rintro _ rfl
              rintro _ rfl
              rintro _ rfl
              rintro _ rfl
              rintro _ rfl
              rintro _ rfl
              rintro _ rfl
              rintro _ rfl
              rintro _ rfl
              rintro _ rfl
              simp only [putAll, List.take, Act.put, List.setIfInBounds_toArray, List.set_cons_zero, List.set_cons_succ]
              refine wpAny_done (by kernel_rfl) ?_ _
              have HE2 := Lib.hid (HE1.out.trans hxwl)
              have cx := HE2.out.keeps _ _ CX.out
              clear hxwl CXW CYW
              go_wp2_with fail
              clear cx
              go_loopw [18] (fun j wr => ∃ (u : Nat), u ≤ x.length ∧ j = .int .i64 u ∧ Ext w3 wr) (fun j _ => x.length - (intOf j).toNat)
              case atStart => exact ⟨0, Nat.zero_le _, rfl, HE2.out⟩
              case round =>
                obtain ⟨u, hu, rfl, hext⟩ := hrel
                have cx := hext.keeps _ _ CX.out
                by_cases hlu : u < x.length
                · obtain ⟨b2, off2, y, rfl, hc2, hy⟩ := SX.out.at_ hlu
                  obtain ⟨b3, off3, z, rfl, hc3, hz⟩ := SY.out.at_ hlu
                  have hzy : z = bitI k y := by
                    unfold laneI at hz
                    rw [List.getElem?_map, hy] at hz
                    exact (Option.some.inj hz).symm
                  subst hzy
                  have CXW := Lib.hid cx; have CYW := Lib.hid (hext.keeps _ _ CY.out)
                  have W2 := Lib.hid (hext.keeps _ _ hc2); have W3 := Lib.hid (hext.keeps _ _ hc3); have HE3 := Lib.hid hext
                  have hand := uI_lane y k
                  have hwr : IntKind.i64.wrap (bitI k y) = bitI k y := IntWalk.i64_in _ (by rcases bitI_01 k y with e | e <;> omega)
                  clear hc2 hc3 hy hz hext
                  go_wp2_with fail
                  clear cx
                  refine wp_flow3 19 0 [isV (.slice (some ⟨b, off, none⟩) n d), isV (.int .i64 t), isV (.pointer (some ⟨b, off + t, none⟩)), isV (.slice (some ⟨b2, off2, none⟩) x.length k1), isV (.int .i64 u), isV (.pointer (some ⟨b2, off2 + u, none⟩)), isV (U y), isV (.int .i64 k), isV (.int .u64 (uI y / 2 ^ k)), isV (.int .u64 (bitI k y)), isV (.int .i64 (bitI k y)), isV (.slice (some ⟨b', off', none⟩) n rc3), isV (.int .i64 t), isV (.pointer (some ⟨b', off' + t, none⟩)), isV (.slice (some ⟨b3, off3, none⟩) x.length k2), isV (.int .i64 u), isV (.pointer (some ⟨b3, off3 + u, none⟩)), isV (I (bitI k y)), isV (.bool false)] (by kernel_rfl) rfl rfl (by kernel_rfl) (by kernel_rfl) ⟨isV_mono, isV_mono, isV_mono, isV_mono, isV_mono, isV_mono, isV_mono, isV_mono, isV_mono, isV_mono, isV_mono, isV_mono, isV_mono, isV_mono, isV_mono, isV_mono, isV_mono, isV_mono, isV_mono, trivial⟩ ?each ?rest
                  case each =>
                    refine .cons ?_ (.cons ?_ (.cons ?_ (.cons ?_ (.cons ?_ (.cons ?_ (.cons ?_ (.cons ?_ (.cons ?_ (.cons ?_ (.cons ?_ (.cons ?_ (.cons ?_ (.cons ?_ (.cons ?_ (.cons ?_ (.cons ?_ (.cons ?_ (.cons ?_ (.nil)))))))))))))))))))
                    · intro fa fw hx hs hb
                      have s7 : fa.tmps[(7 : Nat)]? = some (.slice (some ⟨b, off, none⟩) n d) := (hb 7 (by kernel_rfl)).trans (by rfl)
                      refine .inl ⟨wanted_free rfl, fun K hK => ?_⟩
                      clear hs hb hx
                      go_simp
                      exact hK _ _ rfl (Ext.refl _)
                    · intro fa fw hx hs hb
                      have s17 : fa.tmps[(17 : Nat)]? = some (.int .i64 t) := (hb 17 (by kernel_rfl)).trans (by rfl)
                      refine .inl ⟨wanted_free rfl, fun K hK => ?_⟩
                      clear hs hb hx
                      go_simp
                      exact hK _ _ rfl (Ext.refl _)
                    · intro fa fw hx hs hb
                      obtain ⟨_, s106, rfl⟩ := hs 0 106 (by kernel_rfl) (by kernel_rfl)
                      obtain ⟨_, s107, rfl⟩ := hs 1 107 (by kernel_rfl) (by kernel_rfl)
                      refine .inl ⟨wanted_free rfl, fun K hK => ?_⟩
                      clear hs hb hx
                      go_simp
                      exact hK _ _ rfl (Ext.refl _)
                    · intro fa fw hx hs hb
                      obtain ⟨_, s108, rfl⟩ := hs 2 108 (by kernel_rfl) (by kernel_rfl)
                      have c0 := hx.keeps _ _ CXW.out
                      refine .inl ⟨wanted_free rfl, fun K hK => ?_⟩
                      clear hs hb hx
                      go_simp
                      exact hK _ _ rfl (Ext.refl _)
                    · intro fa fw hx hs hb
                      have s18 : fa.tmps[(18 : Nat)]? = some (.int .i64 u) := (hb 18 (by kernel_rfl)).trans (by rfl)
                      refine .inl ⟨wanted_free rfl, fun K hK => ?_⟩
                      clear hs hb hx
                      go_simp
                      exact hK _ _ rfl (Ext.refl _)
                    · intro fa fw hx hs hb
                      obtain ⟨_, s109, rfl⟩ := hs 3 109 (by kernel_rfl) (by kernel_rfl)
                      obtain ⟨_, s110, rfl⟩ := hs 4 110 (by kernel_rfl) (by kernel_rfl)
                      refine .inl ⟨wanted_free rfl, fun K hK => ?_⟩
                      clear hs hb hx
                      go_simp
                      exact hK _ _ rfl (Ext.refl _)
                    · intro fa fw hx hs hb
                      obtain ⟨_, s111, rfl⟩ := hs 5 111 (by kernel_rfl) (by kernel_rfl)
                      have c0 := hx.keeps _ _ W2.out
                      refine .inl ⟨wanted_free rfl, fun K hK => ?_⟩
                      clear hs hb hx
                      go_simp
                      exact hK _ _ rfl (Ext.refl _)
                    · intro fa fw hx hs hb
                      have s9 : fa.tmps[(9 : Nat)]? = some (.int .i64 k) := (hb 9 (by kernel_rfl)).trans (by rfl)
                      refine .inl ⟨wanted_free rfl, fun K hK => ?_⟩
                      clear hs hb hx
                      go_simp
                      exact hK _ _ rfl (Ext.refl _)
                    · intro fa fw hx hs hb
                      obtain ⟨_, s112, rfl⟩ := hs 6 112 (by kernel_rfl) (by kernel_rfl)
                      obtain ⟨_, s113, rfl⟩ := hs 7 113 (by kernel_rfl) (by kernel_rfl)
                      refine .inl ⟨wanted_free rfl, fun K hK => ?_⟩
                      clear hs hb
                      go_simp
                      exact hK _ _ rfl (Ext.refl _)
                    · intro fa fw hx hs hb
                      obtain ⟨_, s114, rfl⟩ := hs 8 114 (by kernel_rfl) (by kernel_rfl)
                      refine .inl ⟨wanted_free rfl, fun K hK => ?_⟩
                      clear hs hb
                      go_simp
                      exact hK _ _ rfl (Ext.refl _)
                    · intro fa fw hx hs hb
                      obtain ⟨_, s115, rfl⟩ := hs 9 115 (by kernel_rfl) (by kernel_rfl)
                      refine .inl ⟨wanted_free rfl, fun K hK => ?_⟩
                      clear hs hb
                      go_simp
                      exact hK _ _ rfl (Ext.refl _)
                    · intro fa fw hx hs hb
                      have s14 : fa.tmps[(14 : Nat)]? = some (.slice (some ⟨b', off', none⟩) n rc3) := (hb 14 (by kernel_rfl)).trans (by rfl)
                      refine .inl ⟨wanted_free rfl, fun K hK => ?_⟩
                      clear hs hb hx
                      go_simp
                      exact hK _ _ rfl (Ext.refl _)
                    · intro fa fw hx hs hb
                      have s17 : fa.tmps[(17 : Nat)]? = some (.int .i64 t) := (hb 17 (by kernel_rfl)).trans (by rfl)
                      refine .inl ⟨wanted_free rfl, fun K hK => ?_⟩
                      clear hs hb hx
                      go_simp
                      exact hK _ _ rfl (Ext.refl _)
                    · intro fa fw hx hs hb
                      obtain ⟨_, s117, rfl⟩ := hs 11 117 (by kernel_rfl) (by kernel_rfl)
                      obtain ⟨_, s118, rfl⟩ := hs 12 118 (by kernel_rfl) (by kernel_rfl)
                      refine .inl ⟨wanted_free rfl, fun K hK => ?_⟩
                      clear hs hb hx
                      go_simp
                      exact hK _ _ rfl (Ext.refl _)
                    · intro fa fw hx hs hb
                      obtain ⟨_, s119, rfl⟩ := hs 13 119 (by kernel_rfl) (by kernel_rfl)
                      have c0 := hx.keeps _ _ CYW.out
                      refine .inl ⟨wanted_free rfl, fun K hK => ?_⟩
                      clear hs hb hx
                      go_simp
                      exact hK _ _ rfl (Ext.refl _)
                    · intro fa fw hx hs hb
                      have s18 : fa.tmps[(18 : Nat)]? = some (.int .i64 u) := (hb 18 (by kernel_rfl)).trans (by rfl)
                      refine .inl ⟨wanted_free rfl, fun K hK => ?_⟩
                      clear hs hb hx
                      go_simp
                      exact hK _ _ rfl (Ext.refl _)
                    · intro fa fw hx hs hb
                      obtain ⟨_, s120, rfl⟩ := hs 14 120 (by kernel_rfl) (by kernel_rfl)
                      obtain ⟨_, s121, rfl⟩ := hs 15 121 (by kernel_rfl) (by kernel_rfl)
                      refine .inl ⟨wanted_free rfl, fun K hK => ?_⟩
                      clear hs hb hx
                      go_simp
                      exact hK _ _ rfl (Ext.refl _)
                    · intro fa fw hx hs hb
                      obtain ⟨_, s122, rfl⟩ := hs 16 122 (by kernel_rfl) (by kernel_rfl)
                      have c0 := hx.keeps _ _ W3.out
                      refine .inl ⟨wanted_free rfl, fun K hK => ?_⟩
                      clear hs hb hx
                      go_simp
                      exact hK _ _ rfl (Ext.refl _)
                    · intro fa fw hx hs hb
                      obtain ⟨_, s116, rfl⟩ := hs 10 116 (by kernel_rfl) (by kernel_rfl)
                      obtain ⟨_, s123, rfl⟩ := hs 17 123 (by kernel_rfl) (by kernel_rfl)
                      refine .inl ⟨wanted_free rfl, fun K hK => ?_⟩
                      clear hs hb
                      go_simp
                      exact hK _ _ rfl (Ext.refl _)
                  case rest =>
                    intro wl hxwl
                    rintro _ rfl
                    rintro _ rfl
                    rintro _ rfl
                    rintro _ rfl
                    rintro _ rfl
                    rintro _ rfl
                    rintro _ rfl
                    rintro _ rfl
                    rintro _ rfl
                    rintro _ rfl
                    rintro _ rfl
                    rintro _ rfl
                    rintro _ rfl
                    rintro _ rfl
                    rintro _ rfl
                    rintro _ rfl
                    rintro _ rfl
                    rintro _ rfl
                    rintro _ rfl
                    simp only [putAll, List.take, Act.put, List.setIfInBounds_toArray, List.set_cons_zero, List.set_cons_succ]
                    refine wpAny_done (by kernel_rfl) ?_ _
                    have HE4 := Lib.hid (HE3.out.trans hxwl)
                    clear hxwl
                    go_wp2
                    go_roundw
                    case rel => exact ⟨u + 1, by omega, by go_num, HE4.out⟩
                    case measure => simp [intOf]; omega
                · obtain ⟨lx, hlx⟩ : ∃ lx, lx = x.length := ⟨_, rfl⟩
                  rw [← hlx] at hu hlu cx ⊢
                  obtain rfl : lx = u := by omega
                  have HE3 := Lib.hid hext
                  clear hext
                  go_wp2
                  go_roundw
                  case rel => exact ⟨t + 1, by omega, by go_num, HE3.out⟩
                  case measure => simp [intOf]; omega
          · obtain rfl : n = t := by omega
            have X5 := Lib.hid (XB.out.trans hext)
            clear hext
            go_wp2_with fail
            refine (packBegun_any wr).mono ?_; rintro e w5 ⟨rfl, x5⟩
            go_wp2
            go_ret
            exact ⟨rfl, HX.out.trans (X5.out.trans x5)⟩
  · have hnz : (prunE N rows != 0) = true := by simpa using he
    generalize prunE N rows = E at *
    clear he o1 s1 x1 h1 h2
    go_wp2_with fail
    refine (packBegun_any w1).mono ?_; rintro e w3 ⟨rfl, x3⟩
    go_wp2
    go_ret
    exact ⟨rfl, HX.out.trans (X1.out.trans x3)⟩
end
end Go.Proofs.Ytjagbnaacfhokaa
