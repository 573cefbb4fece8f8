/- What must be in any case of tick. -/
import Derived.Test.YtjagbnaacfhokaaRc16
import Derived.Test.YtjagbnaacfhokaaRc20
import Derived.Test.YtjagbnaacfhokaaRc24
import Derived.Test.YtjagbnaacfhokaaRc03
namespace Go.Proofs.Ytjagbnaacfhokaa
set_option linter.unusedVariables false
set_option linter.unusedSimpArgs false
open Go.RowKit

theorem SlRows.new3 (w : World) (b : Nat) (hb : b = w.heap.size) (A1 A2 A3 : Option Addr) (n1 n2 n3 c1 c2 c3 : Nat) (r1 r2 r3 : List Int) (t : TypeId) (h1 : Sl w A1 n1 (r1.map I)) (h2 : Sl w A2 n2 (r2.map I)) (h3 : Sl w A3 n3 (r3.map I)) (m1 : n1 ≤ c1 ∧ c1 ≤ 1000) (m2 : n2 ≤ c2 ∧ c2 ≤ 1000) (m3 : n3 ≤ c3 ∧ c3 ≤ 1000) :
    SlRows (w.alloc (.cells #[.slice A1 n1 c1, .slice A2 n2 c2, .slice A3 n3 c3] t)) (some ⟨b, 0, none⟩) 3 [r1, r2, r3] := by
  subst hb
  have k := fun n h => @ml_small n h
  have l1 : r1.length = n1 := h1.len
  have l2 : r2.length = n2 := h2.len
  have l3 : r3.length = n3 := h3.len
  subst l1; subst l2; subst l3
  have cell : ∀ (j : Nat) (v : Value), #[Value.slice A1 r1.length c1, .slice A2 r2.length c2, .slice A3 r3.length c3][j]? = some v → (w.alloc (.cells #[.slice A1 r1.length c1, .slice A2 r2.length c2, .slice A3 r3.length c3] t)).cell? ⟨w.heap.size, 0 + j, none⟩ = some v := fun j v h => by
    rw [Nat.zero_add, World.cell?_alloc_new]; exact h
  refine ⟨rfl, fun j r hr => ?_⟩
  rcases j with _ | _ | _ | j
  · injection hr with e; subst e
    exact ⟨_, 0, A1, c1, rfl, cell 0 _ rfl, h1.keep (Keeps.alloc _ _), m1.1, k _ m1.2⟩
  · injection hr with e; subst e
    exact ⟨_, 0, A2, c2, rfl, cell 1 _ rfl, h2.keep (Keeps.alloc _ _), m2.1, k _ m2.2⟩
  · injection hr with e; subst e
    exact ⟨_, 0, A3, c3, rfl, cell 2 _ rfl, h3.keep (Keeps.alloc _ _), m3.1, k _ m3.2⟩
  · simp at hr

section
variable {i : Int} {GA : Option Addr} {gn gc : Nat} {RA : Option Addr} {rn rc : Nat} {OA : Option Addr} {on oc : Nat} {N : NetM} {w : World}
theorem do_lit (RB : Option Addr) (pn pc : Nat) (IA : Option Addr) (jn jc : Nat) (regs ins vo vn : List Int) (x : Int) (n m : Nat) (hn : vo.length = n) (hm : vn.length = m) (hE : doE N regs ins = x) (hQ : doQ N regs ins = (vo, vn)) (h : NetC w i GA gn gc RA rn rc OA on oc N) (hr : Sl w RB pn (regs.map I)) (hi : Sl w IA jn (ins.map I)) (hpm : pn ≤ 1000) (hjm : jn ≤ 1000) :
    Calls Try.prog 54 #[netV i GA gn gc RA rn rc OA on oc, .slice RB pn pc, .slice IA jn jc] w fun e w' => ∃ A c B d, e = .returned (Pr3 (.slice A n c) (.slice B m d) (I x)) ∧ Sl w' A n (vo.map I) ∧ Sl w' B m (vn.map I) ∧ Ext w w' :=
  (do_any i GA gn gc RA rn rc OA on oc N RB pn pc IA jn jc regs ins w h hr hi (ml_small hpm) (ml_small hjm)).mono fun e w' ⟨v, u, he, h1, h2, hx⟩ => by
    rw [hE] at he
    rw [hQ] at h1 h2
    obtain ⟨A, c, rfl, -, -, hs⟩ := own_sl h1
    obtain ⟨B, d, rfl, -, -, hs'⟩ := own_sl h2
    rw [hn] at he hs; rw [hm] at he hs'
    exact ⟨A, c, B, d, he, hs, hs', hx⟩
theorem run_lit (A : Option Addr) (n c : Nat) (l : List Int) (rows : List (List Int)) (vn : List Int) (x : Int) (k m : Nat) (hn : rows.length = k) (hm : vn.length = m) (hE : runE N l = x) (hQ : runV N l = (rows, vn)) (h : NetC w i GA gn gc RA rn rc OA on oc N) (hl : Sl w A n (l.map I)) (hnm : n ≤ 1000) :
    Calls Try.prog 57 #[netV i GA gn gc RA rn rc OA on oc, .slice A n c] w fun e w' => ∃ A c B d, e = .returned (Pr3 (.slice A k c) (.slice B m d) (I x)) ∧ SlRows w' A k rows ∧ Sl w' B m (vn.map I) ∧ Ext w w' :=
  (run_any i GA gn gc RA rn rc OA on oc N A n c l w h hl (ml_small hnm)).mono fun e w' ⟨v, u, vs, he, h1, h2, hx⟩ => by
    rw [hE] at he
    rw [hQ] at h1 h2
    obtain ⟨A, c, rfl, -, -, hs⟩ := h1.slice
    obtain ⟨B, d, rfl, -, -, hs'⟩ := own_sl h2
    have hn' : (rows, vn).1.length = k := hn
    rw [hn'] at he hs; rw [hm] at he hs'
    exact ⟨A, c, B, d, he, hs, hs', hx⟩
theorem rows_lit (A B : Option Addr) (n c d : Nat) (xs : List (List Int)) (Q : World) (h : SlRows Q A n xs) (h' : SlRows Q B n xs) (hn : n ≤ 1000) : Calls Try.prog 51 #[.slice A n c, .slice B n d] Q fun e w' => e = .returned (.bool true) ∧ Ext Q w' :=
  (sameRows_any A B n n c d xs xs Q h h' (ml_small hn) (ml_small hn)).mono fun e w' ⟨he, hx⟩ => ⟨by rw [he]; simp, hx⟩
end

set_option maxRecDepth 100000 in
set_option maxHeartbeats 8000000 in
theorem tickBegun_any (w : World) : Calls Try.prog 56 #[] w fun e w' => e = .returned (.bool true) ∧ Ext w w' := by
  go_enter Try.func56, Try.ntmps56
  go_wp2_with fail
  refine (knot_ok w).mono ?_; rintro e w1 ⟨n1, rfl, hn, x1⟩
  have HN := Lib.hid hn; have X := Lib.hid x1; clear hn x1
  go_wp2_with fail
  refine (do_lit _ 1 1 _ 1 1 [1] [1] [0, 1] [0] 0 2 1 rfl rfl (by decide +kernel) (by decide +kernel) ((HN.out.keep (Keeps.alloc _ _)).keep (Keeps.alloc _ _)) ((Sl.newAt _ _ [I 1] _ rfl).keep (Keeps.alloc _ _)) (Sl.newAt _ _ [I 1] _ (by simp)) (by omega) (by omega)).mono ?_
  rintro e w2 ⟨A1', c1, B1, d1, rfl, hs1, hs2, x2⟩
  have hx := ((X.out.alloc _).alloc _).trans x2
  have SA := Lib.hid hs1; have SB := Lib.hid hs2; have X2 := Lib.hid hx; clear hs1 hs2 hx x2 HN X
  go_wp2_with fail
  refine (loose_ok w2).mono ?_; rintro e w3 ⟨n2, rfl, hn, x3⟩
  have HN := Lib.hid hn; have X3 := Lib.hid x3; clear hn x3
  go_wp2_with fail
  refine (do_lit none 0 0 _ 1 1 [] [0] [] [] 6 0 0 rfl rfl (by decide +kernel) (by decide +kernel) (HN.out.keep (Keeps.alloc _ _)) (Sl.nil _ _) (Sl.newAt _ _ [I 0] _ rfl) (by omega) (by omega)).mono ?_
  rintro e w4 ⟨A2, c2, B2, d2, rfl, -, -, x4⟩
  have hk := (X3.out.alloc _).trans x4
  have hx := X2.out.trans hk
  have SA' := Lib.hid (SA.out.keep hk.keeps); have SB' := Lib.hid (SB.out.keep hk.keeps); have X4 := Lib.hid hx; clear hx hk x4 HN X3 X2 SA SB
  go_wp2_with fail
  refine (knot_ok w4).mono ?_; rintro e w5 ⟨n3, rfl, hn, x5⟩
  have HN := Lib.hid hn; have X5 := Lib.hid x5; clear hn x5
  go_wp2_with fail
  refine (run_lit _ 3 3 [1, 0, 1] [[1, 0], [1, 1], [0, 1]] [0] 0 3 1 rfl rfl (by decide +kernel) (by decide +kernel) (HN.out.keep (Keeps.alloc _ _)) (Sl.newAt _ _ [I 1, I 0, I 1] _ rfl) (by omega)).mono ?_
  rintro e w6 ⟨A3, c3, B3, d3, rfl, hs3, hs4, x6⟩
  have hk := (X5.out.alloc _).trans x6
  have hx := X4.out.trans hk
  have SL := Lib.hid hs3; have SR := Lib.hid hs4; have SA := Lib.hid (SA'.out.keep hk.keeps); have SB := Lib.hid (SB'.out.keep hk.keeps); have X6 := Lib.hid hx; clear hs3 hs4 hx hk x6 HN X5 X4 SA' SB'
  go_wp2_with fail
  refine (knot_ok w6).mono ?_; rintro e w7 ⟨n4, rfl, hn, x7⟩
  have HN := Lib.hid hn; have X7 := Lib.hid x7; clear hn x7
  go_wp2_with fail
  refine (run_lit _ 1 1 [2] [] [] 3 0 0 rfl rfl (by decide +kernel) (by decide +kernel) (HN.out.keep (Keeps.alloc _ _)) (Sl.newAt _ _ [I 2] _ rfl) (by omega)).mono ?_
  rintro e w8 ⟨A4, c4, B4, d4, rfl, -, -, x8⟩
  have hk := (X7.out.alloc _).trans x8
  have hx := X6.out.trans hk
  have SL' := Lib.hid (SL.out.keep hk.keeps); have SR' := Lib.hid (SR.out.keep hk.keeps); have SA' := Lib.hid (SA.out.keep hk.keeps); have SB' := Lib.hid (SB.out.keep hk.keeps); have X8 := Lib.hid hx; clear hx hk x8 HN X7 X6 SL SR SA SB
  go_wp2_with fail
  refine (loose_ok w8).mono ?_; rintro e w9 ⟨n5, rfl, hn, x9⟩
  have HN := Lib.hid hn; have X9 := Lib.hid x9; clear hn x9
  go_wp2_with fail
  refine (run_lit _ 2 2 [1, 0] [] [] 6 0 0 rfl rfl (by decide +kernel) (by decide +kernel) (HN.out.keep (Keeps.alloc _ _)) (Sl.newAt _ _ [I 1, I 0] _ rfl) (by omega)).mono ?_
  rintro e wa ⟨A5, c5, B5, d5, rfl, -, -, xa⟩
  have hk := (X9.out.alloc _).trans xa
  have hx := X8.out.trans hk
  have SL := Lib.hid (SL'.out.keep hk.keeps); have SR := Lib.hid (SR'.out.keep hk.keeps); have SA := Lib.hid (SA'.out.keep hk.keeps); have SB := Lib.hid (SB'.out.keep hk.keeps); have XA := Lib.hid hx; clear hx hk xa HN X9 X8 SL' SR' SA' SB'
  go_wp2_with fail
  refine (same_lit _ _ 2 _ _ [0, 1] _ (SA.out.keep (Keeps.alloc _ _)) (Sl.newAt _ _ [I 0, I 1] _ rfl) (by omega)).mono ?_; rintro e wb ⟨rfl, xb⟩
  have hk := ((Ext.refl wa).alloc _).trans xb
  have SL' := Lib.hid (SL.out.keep hk.keeps); have SR' := Lib.hid (SR.out.keep hk.keeps); have SB' := Lib.hid (SB.out.keep hk.keeps); have XB := Lib.hid (XA.out.trans hk); clear hk xb XA SL SR SA SB
  go_wp2_with fail
  refine (same_lit _ _ 1 _ _ [0] _ (SB'.out.keep (Keeps.alloc _ _)) (Sl.newAt _ _ [I 0] _ rfl) (by omega)).mono ?_; rintro e wc ⟨rfl, xc⟩
  have hk := ((Ext.refl wb).alloc _).trans xc
  have SL := Lib.hid (SL'.out.keep hk.keeps); have SR := Lib.hid (SR'.out.keep hk.keeps); have XC := Lib.hid (XB.out.trans hk); clear hk xc XB SL' SR' SB'
  go_wp2_with fail
  refine (rows_lit _ _ 3 _ _ [[1, 0], [1, 1], [0, 1]] _ (SL.out.keep (((Keeps.alloc _ _).trans (Keeps.alloc _ _)).trans ((Keeps.alloc _ _).trans (Keeps.alloc _ _)))) (SlRows.new3 _ _ (by simp) _ _ _ 2 2 2 2 2 2 [1, 0] [1, 1] [0, 1] _ ((Sl.newAt _ _ [I 1, I 0] _ rfl).keep ((Keeps.alloc _ _).trans (Keeps.alloc _ _))) ((Sl.newAt _ _ [I 1, I 1] _ (by simp)).keep (Keeps.alloc _ _)) (Sl.newAt _ _ [I 0, I 1] _ (by simp)) (by omega) (by omega) (by omega)) (by omega)).mono ?_; rintro e wd ⟨rfl, xd⟩
  have hk := (((((Ext.refl wc).alloc _).alloc _).alloc _).alloc _).trans xd
  have SR' := Lib.hid (SR.out.keep hk.keeps); have XD := Lib.hid (XC.out.trans hk); clear hk xd XC SL SR
  go_wp2_with fail
  refine (same_lit _ _ 1 _ _ [0] _ (SR'.out.keep (Keeps.alloc _ _)) (Sl.newAt _ _ [I 0] _ rfl) (by omega)).mono ?_; rintro e we ⟨rfl, xe⟩
  go_wp2
  go_ret
  exact ⟨rfl, (XD.out.alloc _).trans xe⟩
end Go.Proofs.Ytjagbnaacfhokaa
/- tern.Leq walked; what the begun check answers. -/
namespace Go.Proofs.Ytjagbnaacfhokaa
set_option linter.unusedVariables false
set_option linter.unusedSimpArgs false
open Go.RowKit

theorem two_cells (w : World) (a b : Value) (T : TypeId) : (w.alloc (.cells #[a, b] T)).cell? ⟨w.heap.size, 0, none⟩ = some a ∧ (w.alloc (.cells #[a, b] T)).cell? ⟨w.heap.size, 1, none⟩ = some b :=
  ⟨by rw [World.cell?_alloc_new]; rfl, by rw [World.cell?_alloc_new]; rfl⟩

set_option maxHeartbeats 1000000 in
theorem ternLeq_any (A B : Option Addr) (n m c d : Nat) (xs ys : List Int) (w : World) (h : Sl w A n (xs.map I)) (h' : Sl w B m (ys.map I)) (hn : n ≤ maxLen) (hm : m ≤ maxLen) :
    Calls Try.prog 40 #[.slice A n c, .slice B m d] w fun e w' => e = .returned (Pr (.bool (leqOfM xs ys).1) (I (leqOfM xs ys).2)) ∧ Ext w w' := by
  have hl : xs.length = n := h.len
  have hl' : ys.length = m := h'.len
  generalize hR : leqOfM xs ys = R
  unfold leqOfM at hR
  rw [hl, hl'] at hR
  clear hl hl'
  have H := Lib.hid h; clear h
  have H' := Lib.hid h'; clear h'
  have HR := Lib.hid hR; clear hR
  have hn' := hn; have hm' := hm
  unfold maxLen at hn' hm'
  obtain ⟨W, hW⟩ : ∃ W : World, W = w.alloc (.cells #[.slice A n c, .slice B m d] 24) := ⟨_, rfl⟩
  obtain ⟨q0, q1⟩ := two_cells w (.slice A n c) (.slice B m d) 24
  have S1 := Lib.hid (H.out.keep (Keeps.alloc w (.cells #[.slice A n c, .slice B m d] 24)))
  have S2 := Lib.hid (H'.out.keep (Keeps.alloc w (.cells #[.slice A n c, .slice B m d] 24)))
  rw [← hW] at q0 q1 S1 S2
  have HB : Hid (Ext w W) := by unfold Hid; rw [hW]; exact (Ext.refl _).alloc _
  have HW := Lib.hid hW; clear hW
  go_enter Try.func40, Try.ntmps40
  go_wp2
  rw [← HW.out]
  go_loop [15] (fun i => ∃ k : Nat, k ≤ 2 ∧ i = .int .i64 k ∧ (1 ≤ k → xs.any bad3 = false) ∧ (2 ≤ k → ys.any bad3 = false)) (fun i => 2 - (intOf i).toNat)
  case atStart => exact ⟨0, by omega, rfl, by omega, by omega⟩
  case round =>
    obtain ⟨k, hk, rfl, b1, b2⟩ := hrel
    have hk3 : k = 0 ∨ k = 1 ∨ k = 2 := by omega
    clear hk
    rcases hk3 with rfl | rfl | rfl
    · clear b1 b2
      by_cases hb : xs.any bad3 = true
      · have HX := Lib.hid hb; clear hb
        go_wp2_with (go_at_call 79; with_reducible refine (ternCheck_any A n c xs W S1.out hn).mono ?_; rintro e w' ⟨rfl, rfl⟩; rw [checkM_bad HX.out])
        go_ret2; exact ⟨by rw [← HR.out, HX.out]; rfl, HB.out⟩
      · have hb : xs.any bad3 = false := by simpa using hb
        have HX := Lib.hid hb; clear hb
        go_wp2_with (go_at_call 79; with_reducible refine (ternCheck_any A n c xs W S1.out hn).mono ?_; rintro e w' ⟨rfl, rfl⟩; rw [checkM_ok HX.out])
        go_round
        case rel => exact ⟨1, by omega, rfl, fun _ => HX.out, by omega⟩
        case measure => simp [intOf]
    · have HY := Lib.hid (b1 (by omega)); clear b1 b2
      by_cases hb : ys.any bad3 = true
      · have HX := Lib.hid hb; clear hb
        go_wp2_with (go_at_call 79; with_reducible refine (ternCheck_any B m d ys W S2.out hm).mono ?_; rintro e w' ⟨rfl, rfl⟩; rw [checkM_bad HX.out])
        go_ret2; exact ⟨by rw [← HR.out, HY.out, HX.out]; rfl, HB.out⟩
      · have hb : ys.any bad3 = false := by simpa using hb
        have HX := Lib.hid hb; clear hb
        go_wp2_with (go_at_call 79; with_reducible refine (ternCheck_any B m d ys W S2.out hm).mono ?_; rintro e w' ⟨rfl, rfl⟩; rw [checkM_ok HX.out])
        go_round
        case rel => exact ⟨2, by omega, rfl, fun _ => HY.out, fun _ => HX.out⟩
        case measure => simp [intOf]
    · have HY := Lib.hid (b1 (by omega)); have HX := Lib.hid (b2 (by omega)); clear b1 b2
      by_cases hnm : n = m
      · subst hnm
        have HR2 : Hid ((leqM xs ys, (0 : Int)) = R) := by unfold Hid; rw [← HR.out, HY.out, HX.out]; simp
        clear HR
        go_wp2
        go_loopw [32] (fun i wr => ∃ (k m : Nat), k ≤ n ∧ i = .int .i64 k ∧ wr = W.drewN m ∧ leqM (xs.drop k) (ys.drop k) = leqM xs ys) (fun i _ => n - (intOf i).toNat)
        case atStart => exact ⟨0, 0, Nat.zero_le _, rfl, rfl, rfl⟩
        case round =>
          obtain ⟨k, m, hk, rfl, rfl, hM⟩ := hrel
          by_cases hlt : k < n
          · obtain ⟨b, off, x, rfl, hc, hd⟩ := S1.out.next hlt
            obtain ⟨b', off', y, rfl, hc', hd'⟩ := S2.out.next hlt
            rw [hd, hd', leqM] at hM
            have HM := Lib.hid hM; clear hM hd hd'
            by_cases h2 : x = 2
            · have g2 : (x != 2) = false := by simpa using h2
              have H2 := Lib.hid h2; clear h2
              go_wp2
              go_roundw
              case rel => exact ⟨k + 1, _, by omega, by go_num, rfl, by rw [← HM.out]; simp [H2.out]⟩
              case measure => simp [intOf]; omega
            · have g2 : (x != 2) = true := by simpa using h2
              have H2 := Lib.hid h2; clear h2
              by_cases hxy : x = y
              · have g3 : (x != y) = false := by simpa using hxy
                have H3 := Lib.hid hxy; clear hxy
                go_wp2
                go_roundw
                case rel => exact ⟨k + 1, _, by omega, by go_num, rfl, by rw [← HM.out]; simp [H3.out]⟩
                case measure => simp [intOf]; omega
              · have g3 : (x != y) = true := by simpa using hxy
                have H3 := Lib.hid hxy; clear hxy
                go_wp2
                go_ret2; exact ⟨by rw [← HR2.out, ← HM.out]; simp [H2.out, H3.out], HB.out.drewN _⟩
          · have hE : leqM [] (ys.drop k) = true := by cases ys.drop k <;> rfl
            rw [S1.out.drop_end hlt, hE] at hM
            have HM := Lib.hid hM; clear hM hE
            go_wp2
            go_ret2; exact ⟨by rw [← HR2.out, ← HM.out]; rfl, HB.out.drewN _⟩
      · have hne : ((n : Int) != (m : Int)) = true := by simp; omega
        have HN := Lib.hid hnm; clear hnm
        go_wp2
        go_ret2; exact ⟨by rw [← HR.out, HY.out, HX.out]; simp [HN.out], HB.out⟩
end Go.Proofs.Ytjagbnaacfhokaa
