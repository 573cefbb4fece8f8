/- The instants that must be in any case (walkBegun). -/
import Derived.Test.YtejpnbomlnifkaaWalkSame
import Derived.Test.YtejpnbomlnifkaaFlow
import Derived.Deep.DeepCutAuto
namespace Go.Proofs.Ytejpnbomlnifkaa
set_option linter.unusedVariables false
set_option linter.unusedSimpArgs false
open Go.RowKit

theorem play_ok (w : World) : Calls Try.prog 31 #[] w fun e w' => ∃ b, e = .returned (.slice (some ⟨b, 0, none⟩) 13 13) ∧ SlN w' (some ⟨b, 0, none⟩) 13 playM ∧ Ext w w' :=
  (play_any w).mono fun e w' ⟨h1, h2⟩ => ⟨_, h1, by rw [← h2]; exact Sl2.newAt PK PS w _ playM _ _ rfl rfl, by rw [← h2]; exact (Ext.refl w).alloc _⟩
/-- A rest in a box. -/
structure RBox (w : World) (b : Nat) (fr : Bool) (WA : Option Addr) (wn wc : Nat) (OA : Option Addr) (on oc : Nat) (r : RestM) : Prop where
  c0 : w.cell? ⟨b, 0, none⟩ = some (Bv fr)
  c1 : w.cell? ⟨b, 1, none⟩ = some (.slice WA wn wc)
  c2 : w.cell? ⟨b, 2, none⟩ = some (.slice OA on oc)
  rest : RestC w fr WA wn wc OA on oc r
theorem RBox.keep {w w' : World} {b : Nat} {fr : Bool} {WA : Option Addr} {wn wc : Nat} {OA : Option Addr} {on oc : Nat} {r : RestM} (h : RBox w b fr WA wn wc OA on oc r) (hx : Ext w w') : RBox w' b fr WA wn wc OA on oc r :=
  ⟨hx.keeps _ _ h.c0, hx.keeps _ _ h.c1, hx.keeps _ _ h.c2, h.rest.keep hx.keeps⟩
theorem RBox.new {w : World} {fr : Bool} {WA : Option Addr} {wn wc : Nat} {OA : Option Addr} {on oc : Nat} {r : RestM} (h : RestC w fr WA wn wc OA on oc r) :
    RBox (w.alloc (.cells #[Bv fr, .slice WA wn wc, .slice OA on oc] 39)) w.heap.size fr WA wn wc OA on oc r := by
  obtain ⟨h0, h1, h2, -⟩ := restBox w fr WA wn wc OA on oc rfl
  exact ⟨h0, h1, h2, h.keep (Keeps.alloc _ _)⟩
def r3M : RestM := ⟨false, [false, false, false, true, false, false, true, false, false, false, false, false, false], [false, false, false]⟩
def r6M : RestM := ⟨false, [false, false, false, false, false, false, false, false, false, true, false, false, false], [true, true, false]⟩
def r9M : RestM := ⟨false, [false, false, false, false, false, false, false, false, false, false, false, false, false], [false, false, true]⟩
def r12M : RestM := ⟨false, [false, false, false, false, false, false, false, false, false, false, false, false, false], [false, false, false]⟩
theorem step3 : stepM playM (freshM 13) 0 = (r3M, false, 0) := by decide +kernel
theorem step6 : stepM playM r3M 1 = (r6M, false, 0) := by decide +kernel
theorem step9 : stepM playM r6M 0 = (r9M, true, 0) := by decide +kernel
theorem step12 : stepM playM r9M 7 = (r12M, false, 0) := by decide +kernel
theorem step15 : stepM playM r9M 8 = (zeroR, false, 3) := by decide +kernel

set_option maxHeartbeats 8000000 in
/-- A box that holds the zero rest yet. -/
structure Blank (w : World) (g : Nat) : Prop where
  c0 : w.cell? ⟨g, 0, none⟩ = some (.bool false)
  c1 : w.cell? ⟨g, 1, none⟩ = some (.slice none 0 0)
  c2 : w.cell? ⟨g, 2, none⟩ = some (.slice none 0 0)
  lt : g < w.heap.size
  fr : ∀ j, w.frozen? ⟨g, j, none⟩ = false
theorem Blank.new (w : World) : Blank (w.alloc (.cells #[.bool false, .slice none 0 0, .slice none 0 0] 39)) w.heap.size := by
  obtain ⟨h0, h1, h2, h3⟩ := restBox w false none 0 0 none 0 0 rfl
  exact ⟨h0, h1, h2, h3, fun j => World.frozen?_alloc_at _ _ _ _ rfl⟩
theorem Blank.keep {w w' : World} {g : Nat} (h : Blank w g) (hx : Ext w w') : Blank w' g :=
  ⟨hx.keeps _ _ h.c0, hx.keeps _ _ h.c1, hx.keeps _ _ h.c2, Nat.lt_of_lt_of_le h.lt hx.size, fun j => by rw [World.frozen?_of_block (a := ⟨g, j, none⟩) (hx.block _ h.lt)]; exact h.fr j⟩
def Held (w : World) (b : Nat) (r : RestM) : Prop := ∃ fr WA wn wc OA on oc, RBox w b fr WA wn wc OA on oc r
theorem Held.keep {w w' : World} {b : Nat} {r : RestM} (h : Held w b r) (hx : Ext w w') : Held w' b r := by
  obtain ⟨_, _, _, _, _, _, _, h⟩ := h; exact ⟨_, _, _, _, _, _, _, h.keep hx⟩
theorem Held.stored {w : World} {g : Nat} {fr : Bool} {WA : Option Addr} {wn wc : Nat} {OA : Option Addr} {on oc : Nat} {r : RestM} (hg : Blank w g) (hr : RestC w fr WA wn wc OA on oc r) (h1 : ∀ a, WA = some a → g ≠ a.block) (h2 : ∀ a, OA = some a → g ≠ a.block) :
    Held (((w.setCell ⟨g, 0, none⟩ (Bv fr)).setCell ⟨g, 1, none⟩ (.slice WA wn wc)).setCell ⟨g, 2, none⟩ (.slice OA on oc)) g r := by
  have i1 : ((w.setCell ⟨g, 0, none⟩ (Bv fr)).cell? ⟨g, 1, none⟩) = some (.slice none 0 0) := by rw [World.cell?_setCell_other _ _ _ _ (by simp)]; exact hg.c1
  have i2 : (((w.setCell ⟨g, 0, none⟩ (Bv fr)).setCell ⟨g, 1, none⟩ (.slice WA wn wc)).cell? ⟨g, 2, none⟩) = some (.slice none 0 0) := by
    rw [World.cell?_setCell_other _ _ _ _ (by simp), World.cell?_setCell_other _ _ _ _ (by simp)]; exact hg.c2
  refine ⟨fr, WA, wn, wc, OA, on, oc, ?_, ?_, ?_, ((hr.far' h1 h2 _).far' h1 h2 _).far' h1 h2 _⟩
  · rw [World.cell?_setCell_other _ _ _ _ (by simp), World.cell?_setCell_other _ _ _ _ (by simp)]; exact World.cell?_setCell_same _ _ _ hg.c0
  · rw [World.cell?_setCell_other _ _ _ _ (by simp)]; exact World.cell?_setCell_same _ _ _ i1
  · exact World.cell?_setCell_same _ _ _ i2

set_option maxRecDepth 100000 in
set_option maxHeartbeats 16000000 in
theorem walkBegun_any (w : World) : Calls Try.prog 14 #[] w fun e w' => e = .returned (.bool true) ∧ Ext w w' := by
  have h13 : (13 : Nat) ≤ maxLen := by unfold maxLen; omega
  go_enter Try.func14, Try.ntmps14
  go_wp2_with fail
  refine (play_ok _).mono ?_; rintro e w1 ⟨b, rfl, hp, x1⟩
  have HP := Lib.hid hp; clear hp
  go_wp2_with fail
  refine (walkBegin_any _ 13 13 playM w1 HP.out h13).mono ?_; rintro e w2 ⟨fr1, WA1, wn1, wc1, OA1, on1, oc1, rfl, hr, -, -, x2⟩
  have hr' : RestC w2 fr1 WA1 wn1 wc1 OA1 on1 oc1 (freshM 13) := hr
  rw [show (beginM playM).2 = 0 from by decide +kernel]
  have hb : Held (w2.alloc (.cells #[Bv fr1, .slice WA1 wn1 wc1, .slice OA1 on1 oc1] 39)) w2.heap.size (freshM 13) := ⟨_, _, _, _, _, _, _, RBox.new hr'⟩
  have hx := (x1.trans x2).alloc (.cells #[Bv fr1, .slice WA1 wn1 wc1, .slice OA1 on1 oc1] 39)
  have HB1 := Lib.hid hb; have X1 := Lib.hid hx; clear hb hr hr' hx x1 x2 HP
  go_wp2_with fail
  generalize hb1 : w2.heap.size = b1 at *
  generalize w2.alloc (.cells #[Bv fr1, .slice WA1 wn1 wc1, .slice OA1 on1 oc1] 39) = W1 at *
  clear hb1
  go_cut [3, 4, 5] (fun s1 s2 s3 wx => ∃ bN, s1 = .pointer (some ⟨bN, 0, none⟩) ∧ s2 = .bool false ∧ s3 = .int .i64 0 ∧ Held wx bN (r3M) ∧ Held wx b1 (freshM 13) ∧ Ext w wx)
  case first =>
    obtain ⟨fr, WA, wn, wc', OA, on, oc, hB⟩ := HB1.out
    have q0 := hB.c0; have q1 := hB.c1; have q2 := hB.c2
    have HBX := Lib.hid hB
    have key : ∀ Q, Ext W1 Q → Q.cell? ⟨b1, 0, none⟩ = some (Bv fr) ∧ Q.cell? ⟨b1, 1, none⟩ = some (.slice WA wn wc') ∧ Q.cell? ⟨b1, 2, none⟩ = some (.slice OA on oc) := fun Q hQ => ⟨hQ.keeps _ _ q0, hQ.keeps _ _ q1, hQ.keeps _ _ q2⟩
    have stp : ∀ (Q : World) (bq : Nat), SlN Q (some ⟨bq, 0, none⟩) 13 playM → Ext W1 Q → Calls Try.prog 18 #[.slice (some ⟨bq, 0, none⟩) 13 13, restV fr WA wn wc' OA on oc, .int .i64 0] Q fun e w' => RestB Q w' e (r3M) false 0 := fun Q bq hq hQ => by
      have := walkStep_any (some ⟨bq, 0, none⟩) 13 13 playM fr WA wn wc' OA on oc (freshM 13) 0 Q hq (hB.keep hQ).rest h13
      rw [step3] at this; exact this
    have stb : ∀ (Q : World) (bq g : Nat), Blank Q g → SlN Q (some ⟨bq, 0, none⟩) 13 playM → Ext W1 Q → Calls Try.prog 18 #[.slice (some ⟨bq, 0, none⟩) 13 13, restV fr WA wn wc' OA on oc, .int .i64 0] Q fun e w' => RestB Q w' e (r3M) false 0 ∧ Blank w' g := fun Q bq g hg hq hQ =>
      (stp Q bq hq hQ).mono fun e w' h => ⟨h, by obtain ⟨_, _, _, _, _, _, _, _, _, _, _, hx⟩ := h; exact hg.keep hx⟩
    clear hB
    go_region_held3 (fun w' => w'.cell? ⟨b1, 0, none⟩ = some (Bv fr) ∧ w'.cell? ⟨b1, 1, none⟩ = some (.slice WA wn wc') ∧ w'.cell? ⟨b1, 2, none⟩ = some (.slice OA on oc))
      (exact key _ (by repeat (first | exact Ext.refl _ | exact (Ext.refl _).drew | refine Ext.drew ?_ | refine Ext.alloc ?_ _ | refine Ext.setCell ?_ (by first | exact Nat.le_refl _ | exact xq.size) _ | refine Ext.trans ?_ xs | refine Ext.trans ?_ xq)))
      (first
        | (go_at_call 31; refine (play_ok _).mono ?_; rintro e wq ⟨bq, rfl, hq, xq⟩)
        | (go_at_call 18; refine (stb (wq.alloc (.cells #[.bool false, .slice none 0 0, .slice none 0 0] 39)) bq wq.heap.size (Blank.new wq) (hq.keep (Keeps.alloc _ _)) ((((Ext.refl W1).drew).trans xq).alloc _)).mono ?_; rintro e wz ⟨⟨fr2, WA2, wn2, wc2, OA2, on2, oc2, rfl, hr, na, no, xs⟩, ⟨z0, z1, z2, zl, zf⟩⟩)
        | (go_at_call 18; refine (stb wq bq W1.heap.size (((Blank.new W1).keep ((Ext.refl _).drew)).keep xq) hq ((((Ext.refl W1).alloc _).drew).trans xq)).mono ?_; rintro e wz ⟨⟨fr2, WA2, wn2, wc2, OA2, on2, oc2, rfl, hr, na, no, xs⟩, ⟨z0, z1, z2, zl, zf⟩⟩)
        | (go_at_call 18; refine (stp wq bq hq (((Ext.refl W1).drew).trans xq)).mono ?_; rintro e wz ⟨fr2, WA2, wn2, wc2, OA2, on2, oc2, rfl, hr, na, no, xs⟩))
    all_goals go_wp2_with fail
    all_goals go_meet
    all_goals
      refine ⟨_, rfl, rfl, rfl, ?_, ?_, ?_⟩
      · first
          | exact ⟨_, _, _, _, _, _, _, RBox.new hr⟩
          | exact Held.stored ⟨z0, z1, z2, zl, zf⟩ hr (fun a h => Nat.ne_of_lt (Nat.lt_of_lt_of_le (Blank.new wq).lt (na a h))) (fun a h => Nat.ne_of_lt (Nat.lt_of_lt_of_le (Blank.new wq).lt (no a h)))
          | exact Held.stored ⟨z0, z1, z2, zl, zf⟩ hr (fun a h => Nat.ne_of_lt (Nat.lt_of_lt_of_le (((Blank.new W1).keep ((Ext.refl _).drew)).keep xq).lt (na a h))) (fun a h => Nat.ne_of_lt (Nat.lt_of_lt_of_le (((Blank.new W1).keep ((Ext.refl _).drew)).keep xq).lt (no a h)))
      all_goals
        first
          | refine Held.keep HB1.out ?_
          | refine Held.keep HB2.out ?_
          | refine Held.keep HB3.out ?_
          | refine Held.keep HB4.out ?_
          | refine Held.keep HB5.out ?_
          | refine Ext.trans X1.out ?_
        repeat (first | exact Ext.refl _ | exact (Ext.refl _).drew | refine Ext.drew ?_ | refine Ext.alloc ?_ _ | refine Ext.setCell ?_ (by first | exact Nat.le_refl _ | exact xq.size) _ | refine Ext.trans ?_ xs | refine Ext.trans ?_ xq)
  case rest =>
  obtain ⟨b2, rfl, rfl, rfl, h2, k1, hx⟩ := hcut
  have HB2 := Lib.hid h2; have X2 := Lib.hid hx
  clear HB1 X1
  have HB1 := Lib.hid k1
  clear h2 k1 hx
  generalize wc = W2 at *
  go_wp2_with fail
  go_cut [6, 7, 8] (fun s1 s2 s3 wx => ∃ bN, s1 = .pointer (some ⟨bN, 0, none⟩) ∧ s2 = .bool false ∧ s3 = .int .i64 0 ∧ Held wx bN (r6M) ∧ Held wx b1 (freshM 13) ∧ Held wx b2 (r3M) ∧ Ext w wx)
  case first =>
    obtain ⟨fr, WA, wn, wc', OA, on, oc, hB⟩ := HB2.out
    have q0 := hB.c0; have q1 := hB.c1; have q2 := hB.c2
    have HBX := Lib.hid hB
    have key : ∀ Q, Ext W2 Q → Q.cell? ⟨b2, 0, none⟩ = some (Bv fr) ∧ Q.cell? ⟨b2, 1, none⟩ = some (.slice WA wn wc') ∧ Q.cell? ⟨b2, 2, none⟩ = some (.slice OA on oc) := fun Q hQ => ⟨hQ.keeps _ _ q0, hQ.keeps _ _ q1, hQ.keeps _ _ q2⟩
    have stp : ∀ (Q : World) (bq : Nat), SlN Q (some ⟨bq, 0, none⟩) 13 playM → Ext W2 Q → Calls Try.prog 18 #[.slice (some ⟨bq, 0, none⟩) 13 13, restV fr WA wn wc' OA on oc, .int .i64 1] Q fun e w' => RestB Q w' e (r6M) false 0 := fun Q bq hq hQ => by
      have := walkStep_any (some ⟨bq, 0, none⟩) 13 13 playM fr WA wn wc' OA on oc (r3M) 1 Q hq (hB.keep hQ).rest h13
      rw [step6] at this; exact this
    have stb : ∀ (Q : World) (bq g : Nat), Blank Q g → SlN Q (some ⟨bq, 0, none⟩) 13 playM → Ext W2 Q → Calls Try.prog 18 #[.slice (some ⟨bq, 0, none⟩) 13 13, restV fr WA wn wc' OA on oc, .int .i64 1] Q fun e w' => RestB Q w' e (r6M) false 0 ∧ Blank w' g := fun Q bq g hg hq hQ =>
      (stp Q bq hq hQ).mono fun e w' h => ⟨h, by obtain ⟨_, _, _, _, _, _, _, _, _, _, _, hx⟩ := h; exact hg.keep hx⟩
    clear hB
    go_region_held3 (fun w' => w'.cell? ⟨b2, 0, none⟩ = some (Bv fr) ∧ w'.cell? ⟨b2, 1, none⟩ = some (.slice WA wn wc') ∧ w'.cell? ⟨b2, 2, none⟩ = some (.slice OA on oc))
      (exact key _ (by repeat (first | exact Ext.refl _ | exact (Ext.refl _).drew | refine Ext.drew ?_ | refine Ext.alloc ?_ _ | refine Ext.setCell ?_ (by first | exact Nat.le_refl _ | exact xq.size) _ | refine Ext.trans ?_ xs | refine Ext.trans ?_ xq)))
      (first
        | (go_at_call 31; refine (play_ok _).mono ?_; rintro e wq ⟨bq, rfl, hq, xq⟩)
        | (go_at_call 18; refine (stb (wq.alloc (.cells #[.bool false, .slice none 0 0, .slice none 0 0] 39)) bq wq.heap.size (Blank.new wq) (hq.keep (Keeps.alloc _ _)) ((((Ext.refl W2).drew).trans xq).alloc _)).mono ?_; rintro e wz ⟨⟨fr2, WA2, wn2, wc2, OA2, on2, oc2, rfl, hr, na, no, xs⟩, ⟨z0, z1, z2, zl, zf⟩⟩)
        | (go_at_call 18; refine (stb wq bq W2.heap.size (((Blank.new W2).keep ((Ext.refl _).drew)).keep xq) hq ((((Ext.refl W2).alloc _).drew).trans xq)).mono ?_; rintro e wz ⟨⟨fr2, WA2, wn2, wc2, OA2, on2, oc2, rfl, hr, na, no, xs⟩, ⟨z0, z1, z2, zl, zf⟩⟩)
        | (go_at_call 18; refine (stp wq bq hq (((Ext.refl W2).drew).trans xq)).mono ?_; rintro e wz ⟨fr2, WA2, wn2, wc2, OA2, on2, oc2, rfl, hr, na, no, xs⟩))
    all_goals go_wp2_with fail
    all_goals go_meet
    all_goals
      refine ⟨_, rfl, rfl, rfl, ?_, ?_, ?_, ?_⟩
      · first
          | exact ⟨_, _, _, _, _, _, _, RBox.new hr⟩
          | exact Held.stored ⟨z0, z1, z2, zl, zf⟩ hr (fun a h => Nat.ne_of_lt (Nat.lt_of_lt_of_le (Blank.new wq).lt (na a h))) (fun a h => Nat.ne_of_lt (Nat.lt_of_lt_of_le (Blank.new wq).lt (no a h)))
          | exact Held.stored ⟨z0, z1, z2, zl, zf⟩ hr (fun a h => Nat.ne_of_lt (Nat.lt_of_lt_of_le (((Blank.new W2).keep ((Ext.refl _).drew)).keep xq).lt (na a h))) (fun a h => Nat.ne_of_lt (Nat.lt_of_lt_of_le (((Blank.new W2).keep ((Ext.refl _).drew)).keep xq).lt (no a h)))
      all_goals
        first
          | refine Held.keep HB1.out ?_
          | refine Held.keep HB2.out ?_
          | refine Held.keep HB3.out ?_
          | refine Held.keep HB4.out ?_
          | refine Held.keep HB5.out ?_
          | refine Ext.trans X2.out ?_
        repeat (first | exact Ext.refl _ | exact (Ext.refl _).drew | refine Ext.drew ?_ | refine Ext.alloc ?_ _ | refine Ext.setCell ?_ (by first | exact Nat.le_refl _ | exact xq.size) _ | refine Ext.trans ?_ xs | refine Ext.trans ?_ xq)
  case rest =>
  obtain ⟨b3, rfl, rfl, rfl, h3, k1, k2, hx⟩ := hcut
  have HB3 := Lib.hid h3; have X3 := Lib.hid hx
  clear HB1 HB2 X2
  have HB1 := Lib.hid k1; have HB2 := Lib.hid k2
  clear h3 k1 k2 hx
  generalize wc = W3 at *
  go_wp2_with fail
  go_cut [9, 10, 11] (fun s1 s2 s3 wx => ∃ bN, s1 = .pointer (some ⟨bN, 0, none⟩) ∧ s2 = .bool true ∧ s3 = .int .i64 0 ∧ Held wx bN (r9M) ∧ Held wx b1 (freshM 13) ∧ Held wx b2 (r3M) ∧ Held wx b3 (r6M) ∧ Ext w wx)
  case first =>
    obtain ⟨fr, WA, wn, wc', OA, on, oc, hB⟩ := HB3.out
    have q0 := hB.c0; have q1 := hB.c1; have q2 := hB.c2
    have HBX := Lib.hid hB
    have key : ∀ Q, Ext W3 Q → Q.cell? ⟨b3, 0, none⟩ = some (Bv fr) ∧ Q.cell? ⟨b3, 1, none⟩ = some (.slice WA wn wc') ∧ Q.cell? ⟨b3, 2, none⟩ = some (.slice OA on oc) := fun Q hQ => ⟨hQ.keeps _ _ q0, hQ.keeps _ _ q1, hQ.keeps _ _ q2⟩
    have stp : ∀ (Q : World) (bq : Nat), SlN Q (some ⟨bq, 0, none⟩) 13 playM → Ext W3 Q → Calls Try.prog 18 #[.slice (some ⟨bq, 0, none⟩) 13 13, restV fr WA wn wc' OA on oc, .int .i64 0] Q fun e w' => RestB Q w' e (r9M) true 0 := fun Q bq hq hQ => by
      have := walkStep_any (some ⟨bq, 0, none⟩) 13 13 playM fr WA wn wc' OA on oc (r6M) 0 Q hq (hB.keep hQ).rest h13
      rw [step9] at this; exact this
    have stb : ∀ (Q : World) (bq g : Nat), Blank Q g → SlN Q (some ⟨bq, 0, none⟩) 13 playM → Ext W3 Q → Calls Try.prog 18 #[.slice (some ⟨bq, 0, none⟩) 13 13, restV fr WA wn wc' OA on oc, .int .i64 0] Q fun e w' => RestB Q w' e (r9M) true 0 ∧ Blank w' g := fun Q bq g hg hq hQ =>
      (stp Q bq hq hQ).mono fun e w' h => ⟨h, by obtain ⟨_, _, _, _, _, _, _, _, _, _, _, hx⟩ := h; exact hg.keep hx⟩
    clear hB
    go_region_held3 (fun w' => w'.cell? ⟨b3, 0, none⟩ = some (Bv fr) ∧ w'.cell? ⟨b3, 1, none⟩ = some (.slice WA wn wc') ∧ w'.cell? ⟨b3, 2, none⟩ = some (.slice OA on oc))
      (exact key _ (by repeat (first | exact Ext.refl _ | exact (Ext.refl _).drew | refine Ext.drew ?_ | refine Ext.alloc ?_ _ | refine Ext.setCell ?_ (by first | exact Nat.le_refl _ | exact xq.size) _ | refine Ext.trans ?_ xs | refine Ext.trans ?_ xq)))
      (first
        | (go_at_call 31; refine (play_ok _).mono ?_; rintro e wq ⟨bq, rfl, hq, xq⟩)
        | (go_at_call 18; refine (stb (wq.alloc (.cells #[.bool false, .slice none 0 0, .slice none 0 0] 39)) bq wq.heap.size (Blank.new wq) (hq.keep (Keeps.alloc _ _)) ((((Ext.refl W3).drew).trans xq).alloc _)).mono ?_; rintro e wz ⟨⟨fr2, WA2, wn2, wc2, OA2, on2, oc2, rfl, hr, na, no, xs⟩, ⟨z0, z1, z2, zl, zf⟩⟩)
        | (go_at_call 18; refine (stb wq bq W3.heap.size (((Blank.new W3).keep ((Ext.refl _).drew)).keep xq) hq ((((Ext.refl W3).alloc _).drew).trans xq)).mono ?_; rintro e wz ⟨⟨fr2, WA2, wn2, wc2, OA2, on2, oc2, rfl, hr, na, no, xs⟩, ⟨z0, z1, z2, zl, zf⟩⟩)
        | (go_at_call 18; refine (stp wq bq hq (((Ext.refl W3).drew).trans xq)).mono ?_; rintro e wz ⟨fr2, WA2, wn2, wc2, OA2, on2, oc2, rfl, hr, na, no, xs⟩))
    all_goals go_wp2_with fail
    all_goals go_meet
    all_goals
      refine ⟨_, rfl, rfl, rfl, ?_, ?_, ?_, ?_, ?_⟩
      · first
          | exact ⟨_, _, _, _, _, _, _, RBox.new hr⟩
          | exact Held.stored ⟨z0, z1, z2, zl, zf⟩ hr (fun a h => Nat.ne_of_lt (Nat.lt_of_lt_of_le (Blank.new wq).lt (na a h))) (fun a h => Nat.ne_of_lt (Nat.lt_of_lt_of_le (Blank.new wq).lt (no a h)))
          | exact Held.stored ⟨z0, z1, z2, zl, zf⟩ hr (fun a h => Nat.ne_of_lt (Nat.lt_of_lt_of_le (((Blank.new W3).keep ((Ext.refl _).drew)).keep xq).lt (na a h))) (fun a h => Nat.ne_of_lt (Nat.lt_of_lt_of_le (((Blank.new W3).keep ((Ext.refl _).drew)).keep xq).lt (no a h)))
      all_goals
        first
          | refine Held.keep HB1.out ?_
          | refine Held.keep HB2.out ?_
          | refine Held.keep HB3.out ?_
          | refine Held.keep HB4.out ?_
          | refine Held.keep HB5.out ?_
          | refine Ext.trans X3.out ?_
        repeat (first | exact Ext.refl _ | exact (Ext.refl _).drew | refine Ext.drew ?_ | refine Ext.alloc ?_ _ | refine Ext.setCell ?_ (by first | exact Nat.le_refl _ | exact xq.size) _ | refine Ext.trans ?_ xs | refine Ext.trans ?_ xq)
  case rest =>
  obtain ⟨b4, rfl, rfl, rfl, h4, k1, k2, k3, hx⟩ := hcut
  have HB4 := Lib.hid h4; have X4 := Lib.hid hx
  clear HB1 HB2 HB3 X3
  have HB1 := Lib.hid k1; have HB2 := Lib.hid k2; have HB3 := Lib.hid k3
  clear h4 k1 k2 k3 hx
  generalize wc = W4 at *
  go_wp2_with fail
  go_cut [12, 13, 14] (fun s1 s2 s3 wx => ∃ bN, s1 = .pointer (some ⟨bN, 0, none⟩) ∧ s2 = .bool false ∧ s3 = .int .i64 0 ∧ Held wx bN (r12M) ∧ Held wx b1 (freshM 13) ∧ Held wx b2 (r3M) ∧ Held wx b3 (r6M) ∧ Held wx b4 (r9M) ∧ Ext w wx)
  case first =>
    obtain ⟨fr, WA, wn, wc', OA, on, oc, hB⟩ := HB4.out
    have q0 := hB.c0; have q1 := hB.c1; have q2 := hB.c2
    have HBX := Lib.hid hB
    have key : ∀ Q, Ext W4 Q → Q.cell? ⟨b4, 0, none⟩ = some (Bv fr) ∧ Q.cell? ⟨b4, 1, none⟩ = some (.slice WA wn wc') ∧ Q.cell? ⟨b4, 2, none⟩ = some (.slice OA on oc) := fun Q hQ => ⟨hQ.keeps _ _ q0, hQ.keeps _ _ q1, hQ.keeps _ _ q2⟩
    have stp : ∀ (Q : World) (bq : Nat), SlN Q (some ⟨bq, 0, none⟩) 13 playM → Ext W4 Q → Calls Try.prog 18 #[.slice (some ⟨bq, 0, none⟩) 13 13, restV fr WA wn wc' OA on oc, .int .i64 7] Q fun e w' => RestB Q w' e (r12M) false 0 := fun Q bq hq hQ => by
      have := walkStep_any (some ⟨bq, 0, none⟩) 13 13 playM fr WA wn wc' OA on oc (r9M) 7 Q hq (hB.keep hQ).rest h13
      rw [step12] at this; exact this
    have stb : ∀ (Q : World) (bq g : Nat), Blank Q g → SlN Q (some ⟨bq, 0, none⟩) 13 playM → Ext W4 Q → Calls Try.prog 18 #[.slice (some ⟨bq, 0, none⟩) 13 13, restV fr WA wn wc' OA on oc, .int .i64 7] Q fun e w' => RestB Q w' e (r12M) false 0 ∧ Blank w' g := fun Q bq g hg hq hQ =>
      (stp Q bq hq hQ).mono fun e w' h => ⟨h, by obtain ⟨_, _, _, _, _, _, _, _, _, _, _, hx⟩ := h; exact hg.keep hx⟩
    clear hB
    go_region_held3 (fun w' => w'.cell? ⟨b4, 0, none⟩ = some (Bv fr) ∧ w'.cell? ⟨b4, 1, none⟩ = some (.slice WA wn wc') ∧ w'.cell? ⟨b4, 2, none⟩ = some (.slice OA on oc))
      (exact key _ (by repeat (first | exact Ext.refl _ | exact (Ext.refl _).drew | refine Ext.drew ?_ | refine Ext.alloc ?_ _ | refine Ext.setCell ?_ (by first | exact Nat.le_refl _ | exact xq.size) _ | refine Ext.trans ?_ xs | refine Ext.trans ?_ xq)))
      (first
        | (go_at_call 31; refine (play_ok _).mono ?_; rintro e wq ⟨bq, rfl, hq, xq⟩)
        | (go_at_call 18; refine (stb (wq.alloc (.cells #[.bool false, .slice none 0 0, .slice none 0 0] 39)) bq wq.heap.size (Blank.new wq) (hq.keep (Keeps.alloc _ _)) ((((Ext.refl W4).drew).trans xq).alloc _)).mono ?_; rintro e wz ⟨⟨fr2, WA2, wn2, wc2, OA2, on2, oc2, rfl, hr, na, no, xs⟩, ⟨z0, z1, z2, zl, zf⟩⟩)
        | (go_at_call 18; refine (stb wq bq W4.heap.size (((Blank.new W4).keep ((Ext.refl _).drew)).keep xq) hq ((((Ext.refl W4).alloc _).drew).trans xq)).mono ?_; rintro e wz ⟨⟨fr2, WA2, wn2, wc2, OA2, on2, oc2, rfl, hr, na, no, xs⟩, ⟨z0, z1, z2, zl, zf⟩⟩)
        | (go_at_call 18; refine (stp wq bq hq (((Ext.refl W4).drew).trans xq)).mono ?_; rintro e wz ⟨fr2, WA2, wn2, wc2, OA2, on2, oc2, rfl, hr, na, no, xs⟩))
    all_goals go_wp2_with fail
    all_goals go_meet
    all_goals
      refine ⟨_, rfl, rfl, rfl, ?_, ?_, ?_, ?_, ?_, ?_⟩
      · first
          | exact ⟨_, _, _, _, _, _, _, RBox.new hr⟩
          | exact Held.stored ⟨z0, z1, z2, zl, zf⟩ hr (fun a h => Nat.ne_of_lt (Nat.lt_of_lt_of_le (Blank.new wq).lt (na a h))) (fun a h => Nat.ne_of_lt (Nat.lt_of_lt_of_le (Blank.new wq).lt (no a h)))
          | exact Held.stored ⟨z0, z1, z2, zl, zf⟩ hr (fun a h => Nat.ne_of_lt (Nat.lt_of_lt_of_le (((Blank.new W4).keep ((Ext.refl _).drew)).keep xq).lt (na a h))) (fun a h => Nat.ne_of_lt (Nat.lt_of_lt_of_le (((Blank.new W4).keep ((Ext.refl _).drew)).keep xq).lt (no a h)))
      all_goals
        first
          | refine Held.keep HB1.out ?_
          | refine Held.keep HB2.out ?_
          | refine Held.keep HB3.out ?_
          | refine Held.keep HB4.out ?_
          | refine Held.keep HB5.out ?_
          | refine Ext.trans X4.out ?_
        repeat (first | exact Ext.refl _ | exact (Ext.refl _).drew | refine Ext.drew ?_ | refine Ext.alloc ?_ _ | refine Ext.setCell ?_ (by first | exact Nat.le_refl _ | exact xq.size) _ | refine Ext.trans ?_ xs | refine Ext.trans ?_ xq)
  case rest =>
  obtain ⟨b5, rfl, rfl, rfl, h5, k1, k2, k3, k4, hx⟩ := hcut
  have HB5 := Lib.hid h5; have X5 := Lib.hid hx
  clear HB1 HB2 HB3 HB4 X4
  have HB1 := Lib.hid k1; have HB2 := Lib.hid k2; have HB3 := Lib.hid k3; have HB4 := Lib.hid k4
  clear h5 k1 k2 k3 k4 hx
  generalize wc = W5 at *
  go_wp2_with fail
  go_cut [15, 16, 17] (fun s1 s2 s3 wx => ∃ bN, s1 = .pointer (some ⟨bN, 0, none⟩) ∧ s2 = .bool false ∧ s3 = .int .i64 3 ∧ Held wx bN (zeroR) ∧ Held wx b1 (freshM 13) ∧ Held wx b2 (r3M) ∧ Held wx b3 (r6M) ∧ Held wx b4 (r9M) ∧ Held wx b5 (r12M) ∧ Ext w wx)
  case first =>
    obtain ⟨fr, WA, wn, wc', OA, on, oc, hB⟩ := HB4.out
    have q0 := hB.c0; have q1 := hB.c1; have q2 := hB.c2
    have HBX := Lib.hid hB
    have key : ∀ Q, Ext W5 Q → Q.cell? ⟨b4, 0, none⟩ = some (Bv fr) ∧ Q.cell? ⟨b4, 1, none⟩ = some (.slice WA wn wc') ∧ Q.cell? ⟨b4, 2, none⟩ = some (.slice OA on oc) := fun Q hQ => ⟨hQ.keeps _ _ q0, hQ.keeps _ _ q1, hQ.keeps _ _ q2⟩
    have stp : ∀ (Q : World) (bq : Nat), SlN Q (some ⟨bq, 0, none⟩) 13 playM → Ext W5 Q → Calls Try.prog 18 #[.slice (some ⟨bq, 0, none⟩) 13 13, restV fr WA wn wc' OA on oc, .int .i64 8] Q fun e w' => RestB Q w' e (zeroR) false 3 := fun Q bq hq hQ => by
      have := walkStep_any (some ⟨bq, 0, none⟩) 13 13 playM fr WA wn wc' OA on oc (r9M) 8 Q hq (hB.keep hQ).rest h13
      rw [step15] at this; exact this
    have stb : ∀ (Q : World) (bq g : Nat), Blank Q g → SlN Q (some ⟨bq, 0, none⟩) 13 playM → Ext W5 Q → Calls Try.prog 18 #[.slice (some ⟨bq, 0, none⟩) 13 13, restV fr WA wn wc' OA on oc, .int .i64 8] Q fun e w' => RestB Q w' e (zeroR) false 3 ∧ Blank w' g := fun Q bq g hg hq hQ =>
      (stp Q bq hq hQ).mono fun e w' h => ⟨h, by obtain ⟨_, _, _, _, _, _, _, _, _, _, _, hx⟩ := h; exact hg.keep hx⟩
    clear hB
    go_region_held3 (fun w' => w'.cell? ⟨b4, 0, none⟩ = some (Bv fr) ∧ w'.cell? ⟨b4, 1, none⟩ = some (.slice WA wn wc') ∧ w'.cell? ⟨b4, 2, none⟩ = some (.slice OA on oc))
      (exact key _ (by repeat (first | exact Ext.refl _ | exact (Ext.refl _).drew | refine Ext.drew ?_ | refine Ext.alloc ?_ _ | refine Ext.setCell ?_ (by first | exact Nat.le_refl _ | exact xq.size) _ | refine Ext.trans ?_ xs | refine Ext.trans ?_ xq)))
      (first
        | (go_at_call 31; refine (play_ok _).mono ?_; rintro e wq ⟨bq, rfl, hq, xq⟩)
        | (go_at_call 18; refine (stb (wq.alloc (.cells #[.bool false, .slice none 0 0, .slice none 0 0] 39)) bq wq.heap.size (Blank.new wq) (hq.keep (Keeps.alloc _ _)) ((((Ext.refl W5).drew).trans xq).alloc _)).mono ?_; rintro e wz ⟨⟨fr2, WA2, wn2, wc2, OA2, on2, oc2, rfl, hr, na, no, xs⟩, ⟨z0, z1, z2, zl, zf⟩⟩)
        | (go_at_call 18; refine (stb wq bq W5.heap.size (((Blank.new W5).keep ((Ext.refl _).drew)).keep xq) hq ((((Ext.refl W5).alloc _).drew).trans xq)).mono ?_; rintro e wz ⟨⟨fr2, WA2, wn2, wc2, OA2, on2, oc2, rfl, hr, na, no, xs⟩, ⟨z0, z1, z2, zl, zf⟩⟩)
        | (go_at_call 18; refine (stp wq bq hq (((Ext.refl W5).drew).trans xq)).mono ?_; rintro e wz ⟨fr2, WA2, wn2, wc2, OA2, on2, oc2, rfl, hr, na, no, xs⟩))
    all_goals go_wp2_with fail
    all_goals go_meet
    all_goals
      refine ⟨_, rfl, rfl, rfl, ?_, ?_, ?_, ?_, ?_, ?_, ?_⟩
      · first
          | exact ⟨_, _, _, _, _, _, _, RBox.new hr⟩
          | exact Held.stored ⟨z0, z1, z2, zl, zf⟩ hr (fun a h => Nat.ne_of_lt (Nat.lt_of_lt_of_le (Blank.new wq).lt (na a h))) (fun a h => Nat.ne_of_lt (Nat.lt_of_lt_of_le (Blank.new wq).lt (no a h)))
          | exact Held.stored ⟨z0, z1, z2, zl, zf⟩ hr (fun a h => Nat.ne_of_lt (Nat.lt_of_lt_of_le (((Blank.new W5).keep ((Ext.refl _).drew)).keep xq).lt (na a h))) (fun a h => Nat.ne_of_lt (Nat.lt_of_lt_of_le (((Blank.new W5).keep ((Ext.refl _).drew)).keep xq).lt (no a h)))
      all_goals
        first
          | refine Held.keep HB1.out ?_
          | refine Held.keep HB2.out ?_
          | refine Held.keep HB3.out ?_
          | refine Held.keep HB4.out ?_
          | refine Held.keep HB5.out ?_
          | refine Ext.trans X5.out ?_
        repeat (first | exact Ext.refl _ | exact (Ext.refl _).drew | refine Ext.drew ?_ | refine Ext.alloc ?_ _ | refine Ext.setCell ?_ (by first | exact Nat.le_refl _ | exact xq.size) _ | refine Ext.trans ?_ xs | refine Ext.trans ?_ xq)
  case rest =>
  obtain ⟨b6, rfl, rfl, rfl, h6, k1, k2, k3, k4, k5, hx⟩ := hcut
  have HB6 := Lib.hid h6; have X6 := Lib.hid hx
  clear HB1 HB2 HB3 HB4 HB5 X5
  have HB1 := Lib.hid k1; have HB2 := Lib.hid k2; have HB3 := Lib.hid k3; have HB4 := Lib.hid k4; have HB5 := Lib.hid k5
  clear h6 k1 k2 k3 k4 k5 hx
  generalize wc = W6 at *

  obtain ⟨fr1, WA1, wn1, wc1, OA1, on1, oc1, hB1⟩ := HB1.out
  obtain ⟨fr2, WA2, wn2, wc2, OA2, on2, oc2, hB2⟩ := HB2.out
  obtain ⟨fr3, WA3, wn3, wc3, OA3, on3, oc3, hB3⟩ := HB3.out
  obtain ⟨fr4, WA4, wn4, wc4, OA4, on4, oc4, hB4⟩ := HB4.out
  obtain ⟨fr5, WA5, wn5, wc5, OA5, on5, oc5, hB5⟩ := HB5.out
  clear HB1 HB2 HB3 HB4 HB5 HB6
  have e2 : wn2 = 13 := hB2.rest.waits.len.symm
  have e3 : wn3 = 13 := hB3.rest.waits.len.symm
  have d2 : on2 = 3 := hB2.rest.outs.len.symm
  have d3 : on3 = 3 := hB3.rest.outs.len.symm
  have d4 : on4 = 3 := hB4.rest.outs.len.symm
  have d5 : on5 = 3 := hB5.rest.outs.len.symm
  have f1 : fr1 = true := hB1.rest.fresh.symm
  subst e2; subst e3; subst d2; subst d3; subst d4; subst d5; subst f1
  obtain ⟨p2, o2, x, rfl, u3, v3⟩ := hB2.rest.waits.at_ (show 3 < 13 by omega)
  obtain ⟨p2', o2', y, e, u6, v6⟩ := hB2.rest.waits.at_ (show 6 < 13 by omega)
  injection e with e; injection e with e e'; subst e; subst e'
  obtain ⟨p3, o3, z, rfl, u9, v9⟩ := hB3.rest.waits.at_ (show 9 < 13 by omega)
  have v3' : true = x := Option.some.inj v3
  have v6' : true = y := Option.some.inj v6
  have v9' : true = z := Option.some.inj v9
  subst v3'; subst v6'; subst v9'
  clear v3 v6 v9
  have q0 := hB1.c0; have q1 := hB1.c1; have q2 := hB1.c2
  have H1 := Lib.hid hB1; have H2 := Lib.hid hB2; have H3 := Lib.hid hB3; have H4 := Lib.hid hB4; have H5 := Lib.hid hB5
  have U3 := Lib.hid u3; have U6 := Lib.hid u6; have U9 := Lib.hid u9
  clear hB1 hB2 hB3 hB4 hB5 u3 u6 u9
  go_wp2_with fail
  clear q0 q1 q2
  have hb7 : RBox (W6.alloc (.cells #[Bv true, .slice none 0 0, .slice OA1 on1 oc1] 39)) W6.heap.size true none 0 0 OA1 on1 oc1 ⟨true, [], [false, false, false]⟩ :=
    RBox.new ⟨rfl, Sl.nil _ _, H1.out.rest.outs, ⟨Nat.le_refl _, Nat.zero_le _⟩, H1.out.rest.ol⟩
  have x7 : Ext W6 (W6.alloc (.cells #[Bv true, .slice none 0 0, .slice OA1 on1 oc1] 39)) := (Ext.refl _).alloc _
  generalize W6.alloc (.cells #[Bv true, .slice none 0 0, .slice OA1 on1 oc1] 39) = W7 at *
  generalize W6.heap.size = b7 at *
  have k2 := H2.out.keep x7; have k3 := H3.out.keep x7; have k4 := H4.out.keep x7; have k5 := H5.out.keep x7
  have r0 := hb7.c0; have r1 := hb7.c1; have r2 := hb7.c2
  have s1 := k2.c1; have s2 := k2.c2; have s3 := k3.c1; have s4 := k3.c2; have s5 := k4.c2; have s6 := k5.c2
  have u3 := x7.keeps _ _ U3.out; have u6 := x7.keeps _ _ U6.out; have u9 := x7.keeps _ _ U9.out
  have key : ∀ Q, Ext W7 Q → Q.cell? ⟨b7, 0, none⟩ = some (Bv true) ∧ Q.cell? ⟨b7, 1, none⟩ = some (.slice none 0 0) ∧ Q.cell? ⟨b7, 2, none⟩ = some (.slice OA1 on1 oc1) ∧ Q.cell? ⟨b2, 1, none⟩ = some (.slice (some ⟨p2, o2, none⟩) 13 wc2) ∧ Q.cell? ⟨b2, 2, none⟩ = some (.slice OA2 3 oc2) ∧ Q.cell? ⟨b3, 1, none⟩ = some (.slice (some ⟨p3, o3, none⟩) 13 wc3) ∧ Q.cell? ⟨b3, 2, none⟩ = some (.slice OA3 3 oc3) ∧ Q.cell? ⟨b4, 2, none⟩ = some (.slice OA4 3 oc4) ∧ Q.cell? ⟨b5, 2, none⟩ = some (.slice OA5 3 oc5) ∧ Q.cell? ⟨p2, o2 + 3, none⟩ = some (Bv true) ∧ Q.cell? ⟨p2, o2 + 6, none⟩ = some (Bv true) ∧ Q.cell? ⟨p3, o3 + 9, none⟩ = some (Bv true) :=
    fun Q h => ⟨h.keeps _ _ r0, h.keeps _ _ r1, h.keeps _ _ r2, h.keeps _ _ s1, h.keeps _ _ s2, h.keeps _ _ s3, h.keeps _ _ s4, h.keeps _ _ s5, h.keeps _ _ s6, h.keeps _ _ u3, h.keeps _ _ u6, h.keeps _ _ u9⟩
  have ck : ∀ (Q : World) (bq : Nat), SlN Q (some ⟨bq, 0, none⟩) 13 playM → Ext W7 Q → Calls Try.prog 15 #[.slice (some ⟨bq, 0, none⟩) 13 13, restV true none 0 0 OA1 on1 oc1] Q fun e w' => e = .returned (.int .i64 1) ∧ Ext Q w' := fun Q bq hq hQ =>
    walkCheck_any (some ⟨bq, 0, none⟩) 13 13 playM true none 0 0 OA1 on1 oc1 ⟨true, [], [false, false, false]⟩ Q hq (hb7.keep hQ).rest h13
  have td : ∀ (OA : Option Addr) (oc : Nat) (bs : List Bool) (zs : List Int), bs.map toldB = zs → Sl W7 OA 3 (bs.map Bv) → ∀ Q, Ext W7 Q → Calls Try.prog 32 #[.slice OA 3 oc] Q fun e w' => ∃ A c, e = .returned (.slice A 3 c) ∧ (∀ Q', Ext w' Q' → Sl Q' A 3 (zs.map I)) ∧ Ext Q w' := fun OA oc bs zs hz hs Q hQ =>
    (rTold_any OA 3 oc bs Q (hs.keep hQ.keeps) (by omega)).mono fun e w' ⟨v, he, hown, hx⟩ => by
      obtain ⟨A, c, rfl, -, -, hsl⟩ := own_sl hown
      rw [hz] at hsl
      exact ⟨A, c, he, fun Q' h => hsl.keep h.keeps, hx⟩
  have t2 := td OA2 oc2 [false, false, false] [0, 0, 0] rfl k2.rest.outs
  have t3 := td OA3 oc3 [true, true, false] [1, 1, 0] rfl k3.rest.outs
  have t4 := td OA4 oc4 [false, false, true] [0, 0, 1] rfl k4.rest.outs
  have t5 := td OA5 oc5 [false, false, false] [0, 0, 0] rfl k5.rest.outs
  have sm : ∀ (A B : Option Addr) (c d : Nat) (xs : List Int) (Q : World), Sl Q A 3 (xs.map I) → Sl Q B 3 (xs.map I) → Calls Try.prog 26 #[.slice A 3 c, .slice B 3 d] Q fun e w' => e = .returned (.bool true) ∧ Ext Q w' := fun A B c d xs Q h h' =>
    (sameInts_any A B 3 3 c d xs xs Q h h' (by unfold maxLen; omega) (by unfold maxLen; omega)).mono fun e w' ⟨he, m, hm⟩ => ⟨by rw [he]; simp, by rw [hm]; exact (Ext.refl Q).drewN m⟩

  have x67 := X6.out.trans x7
  have T2 := Lib.hid t2; have T3 := Lib.hid t3; have T4 := Lib.hid t4; have T5 := Lib.hid t5; have SM := Lib.hid sm; have CK := Lib.hid ck; have KEY := Lib.hid key; have HX := Lib.hid x67
  clear t2 t3 t4 t5 sm ck key x67 td H1 H2 H3 H4 H5 U3 U6 U9 hb7 x7 k2 k3 k4 k5
  obtain ⟨k70, k71, k72, k21, k22, k31, k32, k42, k52, k23, k26, k39⟩ := KEY.out _ (Ext.refl _)
  have C70 := Lib.hid k70
  have C71 := Lib.hid k71
  have C72 := Lib.hid k72
  have C21 := Lib.hid k21
  have C22 := Lib.hid k22
  have C31 := Lib.hid k31
  have C32 := Lib.hid k32
  have C42 := Lib.hid k42
  have C52 := Lib.hid k52
  have D23 := Lib.hid k23
  have D26 := Lib.hid k26
  have D39 := Lib.hid k39
  clear k70 k71 k72 k21 k22 k31 k32 k42 k52 k23 k26 k39 KEY
  refine wp_flow2 [isV (.int .i64 0), isV (.bool true), isV (.bool true), isV (.int .i64 0), isV (.bool true), isV (.bool true), isV (.bool true), isV (.int .i64 0), isV (.bool true), isV (.bool true), isV (.bool true), isV (.int .i64 0), isV (.bool true), isV (.bool true), isV (.bool true), isV (.int .i64 0), isV (.bool true), isV (.bool true), isV (.bool true), isV (.int .i64 3), isV (.bool true), isV (.bool true), isV (.bool true), fun v w => ∃ b, v = .slice (some ⟨b, 0, none⟩) 13 13 ∧ SlN w (some ⟨b, 0, none⟩) 13 playM, isV (.agg #[.bool true, .slice none 0 0, .slice OA1 on1 oc1]), isV (.int .i64 1), isV (.bool true), isV (.bool true), isV (.bool true), isV (.bool false), isV (.bool true), isV (.bool true), isV (.bool true), isV (.bool false), isV (.bool true), isV (.bool true), isV (.bool true), isV (.bool true), isV (.bool true), isV (.bool true), isV (.bool false), isV (.bool true), isV (.bool true), isV (.bool true), isV (.pointer (some ⟨b2, 2, none⟩)), isV (.slice OA2 3 oc2), fun v w => ∃ A c, v = .slice A 3 c ∧ Sl w A 3 [I 0, I 0, I 0], fun v w => ∃ A c, v = .slice A 3 c ∧ Sl w A 3 [I 0, I 0, I 0], isV (.bool true), isV (.bool true), isV (.bool true), isV (.pointer (some ⟨b3, 2, none⟩)), isV (.slice OA3 3 oc3), fun v w => ∃ A c, v = .slice A 3 c ∧ Sl w A 3 [I 1, I 1, I 0], fun v w => ∃ A c, v = .slice A 3 c ∧ Sl w A 3 [I 1, I 1, I 0], isV (.bool true), isV (.bool true), isV (.bool true), isV (.pointer (some ⟨b4, 2, none⟩)), isV (.slice OA4 3 oc4), fun v w => ∃ A c, v = .slice A 3 c ∧ Sl w A 3 [I 0, I 0, I 1], fun v w => ∃ A c, v = .slice A 3 c ∧ Sl w A 3 [I 0, I 0, I 1], isV (.bool true), isV (.bool true), isV (.bool true), isV (.pointer (some ⟨b5, 2, none⟩)), isV (.slice OA5 3 oc5), fun v w => ∃ A c, v = .slice A 3 c ∧ Sl w A 3 [I 0, I 0, I 0], fun v w => ∃ A c, v = .slice A 3 c ∧ Sl w A 3 [I 0, I 0, I 0], isV (.bool true), isV (.bool true), isV (.bool true), isV (.pointer (some ⟨b2, 1, none⟩)), isV (.slice (some ⟨p2, o2, none⟩) 13 wc2), isV (.int .i64 13), isV (.bool true), isV (.bool true), isV (.bool true), isV (.pointer (some ⟨b2, 1, none⟩)), isV (.slice (some ⟨p2, o2, none⟩) 13 wc2), isV (.pointer (some ⟨p2, o2 + 3, none⟩)), isV (.bool true), isV (.bool true), isV (.bool true), isV (.pointer (some ⟨b2, 1, none⟩)), isV (.slice (some ⟨p2, o2, none⟩) 13 wc2), isV (.pointer (some ⟨p2, o2 + 6, none⟩)), isV (.bool true), isV (.bool true), isV (.bool true), isV (.pointer (some ⟨b3, 1, none⟩)), isV (.slice (some ⟨p3, o3, none⟩) 13 wc3), isV (.pointer (some ⟨p3, o3 + 9, none⟩)), isV (.bool true), isV (.bool true), isV (.bool true)] (by kernel_rfl) (by kernel_rfl) ⟨isV_mono, isV_mono, isV_mono, isV_mono, isV_mono, isV_mono, isV_mono, isV_mono, isV_mono, isV_mono, isV_mono, isV_mono, isV_mono, isV_mono, isV_mono, isV_mono, isV_mono, isV_mono, isV_mono, isV_mono, isV_mono, isV_mono, isV_mono, fun v w w' ⟨b, e, h⟩ hx => ⟨b, e, h.keep hx.keeps⟩, isV_mono, isV_mono, isV_mono, isV_mono, isV_mono, isV_mono, isV_mono, isV_mono, isV_mono, isV_mono, isV_mono, isV_mono, isV_mono, isV_mono, isV_mono, isV_mono, isV_mono, isV_mono, isV_mono, isV_mono, isV_mono, isV_mono, fun v w w' ⟨A, c, e, h⟩ hx => ⟨A, c, e, h.keep hx.keeps⟩, fun v w w' ⟨A, c, e, h⟩ hx => ⟨A, c, e, h.keep hx.keeps⟩, isV_mono, isV_mono, isV_mono, isV_mono, isV_mono, fun v w w' ⟨A, c, e, h⟩ hx => ⟨A, c, e, h.keep hx.keeps⟩, fun v w w' ⟨A, c, e, h⟩ hx => ⟨A, c, e, h.keep hx.keeps⟩, isV_mono, isV_mono, isV_mono, isV_mono, isV_mono, fun v w w' ⟨A, c, e, h⟩ hx => ⟨A, c, e, h.keep hx.keeps⟩, fun v w w' ⟨A, c, e, h⟩ hx => ⟨A, c, e, h.keep hx.keeps⟩, isV_mono, isV_mono, isV_mono, isV_mono, isV_mono, fun v w w' ⟨A, c, e, h⟩ hx => ⟨A, c, e, h.keep hx.keeps⟩, fun v w w' ⟨A, c, e, h⟩ hx => ⟨A, c, e, h.keep hx.keeps⟩, isV_mono, isV_mono, isV_mono, isV_mono, isV_mono, isV_mono, isV_mono, isV_mono, isV_mono, isV_mono, isV_mono, isV_mono, isV_mono, isV_mono, isV_mono, isV_mono, isV_mono, isV_mono, isV_mono, isV_mono, isV_mono, isV_mono, isV_mono, isV_mono, isV_mono, isV_mono, isV_mono, trivial⟩ ?each ?last
  case each =>
    refine .cons ?_ (.cons ?_ (.cons ?_ (.cons ?_ (.cons ?_ (.cons ?_ (.cons ?_ (.cons ?_ (.cons ?_ (.cons ?_ (.cons ?_ (.cons ?_ (.cons ?_ (.cons ?_ (.cons ?_ (.cons ?_ (.cons ?_ (.cons ?_ (.cons ?_ (.cons ?_ (.cons ?_ (.cons ?_ (.cons ?_ (.cons ?_ (.cons ?_ (.cons ?_ (.cons ?_ (.cons ?_ (.cons ?_ (.cons ?_ (.cons ?_ (.cons ?_ (.cons ?_ (.cons ?_ (.cons ?_ (.cons ?_ (.cons ?_ (.cons ?_ (.cons ?_ (.cons ?_ (.cons ?_ (.cons ?_ (.cons ?_ (.cons ?_ (.cons ?_ (.cons ?_ (.cons ?_ (.cons ?_ (.cons ?_ (.cons ?_ (.cons ?_ (.cons ?_ (.cons ?_ (.cons ?_ (.cons ?_ (.cons ?_ (.cons ?_ (.cons ?_ (.cons ?_ (.cons ?_ (.cons ?_ (.cons ?_ (.cons ?_ (.cons ?_ (.cons ?_ (.cons ?_ (.cons ?_ (.cons ?_ (.cons ?_ (.cons ?_ (.cons ?_ (.cons ?_ (.cons ?_ (.cons ?_ (.cons ?_ (.cons ?_ (.cons ?_ (.cons ?_ (.cons ?_ (.cons ?_ (.cons ?_ (.cons ?_ (.cons ?_ (.cons ?_ (.cons ?_ (.cons ?_ (.cons ?_ (.cons ?_ (.cons ?_ (.cons ?_ (.cons ?_ (.cons ?_ (.cons ?_ (.cons ?_ (.cons ?_ (.cons ?_ (.nil))))))))))))))))))))))))))))))))))))))))))))))))))))))))))))))))))))))))))))))))))))))))))))))))
    · intro a w hx hs hb
      have s2 : a.tmps[(2 : Nat)]? = some (.int .i64 0) := (hb 2 (by kernel_rfl)).trans (by rfl)
      refine .inl ⟨wanted_free rfl, fun K hK => ?_⟩
      clear hs hb hx
      go_simp
      exact hK _ _ rfl (Ext.refl _)
    · intro a w hx hs hb
      obtain ⟨_, s61, rfl⟩ := hs 0 61 (by kernel_rfl) (by kernel_rfl)
      refine .inl ⟨wanted_free rfl, fun K hK => ?_⟩
      clear hs hb hx
      go_simp
      exact hK _ _ rfl (Ext.refl _)
    · intro a w hx hs hb
      obtain ⟨_, s62, rfl⟩ := hs 1 62 (by kernel_rfl) (by kernel_rfl)
      refine .inl ⟨wanted_free rfl, fun K hK => ?_⟩
      clear hs hb hx
      go_simp
      exact hK _ _ rfl (Ext.refl _)
    · intro a w hx hs hb
      obtain ⟨_, s63, rfl⟩ := hs 2 63 (by kernel_rfl) (by kernel_rfl)
      have s5 : a.tmps[(5 : Nat)]? = some (.int .i64 0) := (hb 5 (by kernel_rfl)).trans (by rfl)
      refine .inl ⟨wanted_yes 2 true 63 rfl (by kernel_rfl) s63, fun K hK => ?_⟩
      clear hs hb hx
      go_simp
      exact hK _ _ rfl (Ext.refl _)
    · intro a w hx hs hb
      obtain ⟨_, s63, rfl⟩ := hs 2 63 (by kernel_rfl) (by kernel_rfl)
      obtain ⟨_, s64, rfl⟩ := hs 3 64 (by kernel_rfl) (by kernel_rfl)
      refine .inl ⟨wanted_yes 2 true 63 rfl (by kernel_rfl) s63, fun K hK => ?_⟩
      clear hs hb hx
      go_simp
      exact hK _ _ rfl (Ext.refl _)
    · intro a w hx hs hb
      obtain ⟨_, s63, rfl⟩ := hs 2 63 (by kernel_rfl) (by kernel_rfl)
      obtain ⟨_, s65, rfl⟩ := hs 4 65 (by kernel_rfl) (by kernel_rfl)
      refine .inl ⟨wanted_free rfl, fun K hK => ?_⟩
      clear hs hb hx
      go_simp
      exact hK _ _ rfl (Ext.refl _)
    · intro a w hx hs hb
      obtain ⟨_, s66, rfl⟩ := hs 5 66 (by kernel_rfl) (by kernel_rfl)
      refine .inl ⟨wanted_free rfl, fun K hK => ?_⟩
      clear hs hb hx
      go_simp
      exact hK _ _ rfl (Ext.refl _)
    · intro a w hx hs hb
      obtain ⟨_, s67, rfl⟩ := hs 6 67 (by kernel_rfl) (by kernel_rfl)
      have s8 : a.tmps[(8 : Nat)]? = some (.int .i64 0) := (hb 8 (by kernel_rfl)).trans (by rfl)
      refine .inl ⟨wanted_yes 6 true 67 rfl (by kernel_rfl) s67, fun K hK => ?_⟩
      clear hs hb hx
      go_simp
      exact hK _ _ rfl (Ext.refl _)
    · intro a w hx hs hb
      obtain ⟨_, s67, rfl⟩ := hs 6 67 (by kernel_rfl) (by kernel_rfl)
      obtain ⟨_, s68, rfl⟩ := hs 7 68 (by kernel_rfl) (by kernel_rfl)
      refine .inl ⟨wanted_yes 6 true 67 rfl (by kernel_rfl) s67, fun K hK => ?_⟩
      clear hs hb hx
      go_simp
      exact hK _ _ rfl (Ext.refl _)
    · intro a w hx hs hb
      obtain ⟨_, s67, rfl⟩ := hs 6 67 (by kernel_rfl) (by kernel_rfl)
      obtain ⟨_, s69, rfl⟩ := hs 8 69 (by kernel_rfl) (by kernel_rfl)
      refine .inl ⟨wanted_free rfl, fun K hK => ?_⟩
      clear hs hb hx
      go_simp
      exact hK _ _ rfl (Ext.refl _)
    · intro a w hx hs hb
      obtain ⟨_, s70, rfl⟩ := hs 9 70 (by kernel_rfl) (by kernel_rfl)
      refine .inl ⟨wanted_free rfl, fun K hK => ?_⟩
      clear hs hb hx
      go_simp
      exact hK _ _ rfl (Ext.refl _)
    · intro a w hx hs hb
      obtain ⟨_, s71, rfl⟩ := hs 10 71 (by kernel_rfl) (by kernel_rfl)
      have s11 : a.tmps[(11 : Nat)]? = some (.int .i64 0) := (hb 11 (by kernel_rfl)).trans (by rfl)
      refine .inl ⟨wanted_yes 10 true 71 rfl (by kernel_rfl) s71, fun K hK => ?_⟩
      clear hs hb hx
      go_simp
      exact hK _ _ rfl (Ext.refl _)
    · intro a w hx hs hb
      obtain ⟨_, s71, rfl⟩ := hs 10 71 (by kernel_rfl) (by kernel_rfl)
      obtain ⟨_, s72, rfl⟩ := hs 11 72 (by kernel_rfl) (by kernel_rfl)
      refine .inl ⟨wanted_yes 10 true 71 rfl (by kernel_rfl) s71, fun K hK => ?_⟩
      clear hs hb hx
      go_simp
      exact hK _ _ rfl (Ext.refl _)
    · intro a w hx hs hb
      obtain ⟨_, s71, rfl⟩ := hs 10 71 (by kernel_rfl) (by kernel_rfl)
      obtain ⟨_, s73, rfl⟩ := hs 12 73 (by kernel_rfl) (by kernel_rfl)
      refine .inl ⟨wanted_free rfl, fun K hK => ?_⟩
      clear hs hb hx
      go_simp
      exact hK _ _ rfl (Ext.refl _)
    · intro a w hx hs hb
      obtain ⟨_, s74, rfl⟩ := hs 13 74 (by kernel_rfl) (by kernel_rfl)
      refine .inl ⟨wanted_free rfl, fun K hK => ?_⟩
      clear hs hb hx
      go_simp
      exact hK _ _ rfl (Ext.refl _)
    · intro a w hx hs hb
      obtain ⟨_, s75, rfl⟩ := hs 14 75 (by kernel_rfl) (by kernel_rfl)
      have s14 : a.tmps[(14 : Nat)]? = some (.int .i64 0) := (hb 14 (by kernel_rfl)).trans (by rfl)
      refine .inl ⟨wanted_yes 14 true 75 rfl (by kernel_rfl) s75, fun K hK => ?_⟩
      clear hs hb hx
      go_simp
      exact hK _ _ rfl (Ext.refl _)
    · intro a w hx hs hb
      obtain ⟨_, s75, rfl⟩ := hs 14 75 (by kernel_rfl) (by kernel_rfl)
      obtain ⟨_, s76, rfl⟩ := hs 15 76 (by kernel_rfl) (by kernel_rfl)
      refine .inl ⟨wanted_yes 14 true 75 rfl (by kernel_rfl) s75, fun K hK => ?_⟩
      clear hs hb hx
      go_simp
      exact hK _ _ rfl (Ext.refl _)
    · intro a w hx hs hb
      obtain ⟨_, s75, rfl⟩ := hs 14 75 (by kernel_rfl) (by kernel_rfl)
      obtain ⟨_, s77, rfl⟩ := hs 16 77 (by kernel_rfl) (by kernel_rfl)
      refine .inl ⟨wanted_free rfl, fun K hK => ?_⟩
      clear hs hb hx
      go_simp
      exact hK _ _ rfl (Ext.refl _)
    · intro a w hx hs hb
      obtain ⟨_, s78, rfl⟩ := hs 17 78 (by kernel_rfl) (by kernel_rfl)
      refine .inl ⟨wanted_free rfl, fun K hK => ?_⟩
      clear hs hb hx
      go_simp
      exact hK _ _ rfl (Ext.refl _)
    · intro a w hx hs hb
      obtain ⟨_, s79, rfl⟩ := hs 18 79 (by kernel_rfl) (by kernel_rfl)
      have s17 : a.tmps[(17 : Nat)]? = some (.int .i64 3) := (hb 17 (by kernel_rfl)).trans (by rfl)
      refine .inl ⟨wanted_yes 18 true 79 rfl (by kernel_rfl) s79, fun K hK => ?_⟩
      clear hs hb hx
      go_simp
      exact hK _ _ rfl (Ext.refl _)
    · intro a w hx hs hb
      obtain ⟨_, s79, rfl⟩ := hs 18 79 (by kernel_rfl) (by kernel_rfl)
      obtain ⟨_, s80, rfl⟩ := hs 19 80 (by kernel_rfl) (by kernel_rfl)
      refine .inl ⟨wanted_yes 18 true 79 rfl (by kernel_rfl) s79, fun K hK => ?_⟩
      clear hs hb hx
      go_simp
      exact hK _ _ rfl (Ext.refl _)
    · intro a w hx hs hb
      obtain ⟨_, s79, rfl⟩ := hs 18 79 (by kernel_rfl) (by kernel_rfl)
      obtain ⟨_, s81, rfl⟩ := hs 20 81 (by kernel_rfl) (by kernel_rfl)
      refine .inl ⟨wanted_free rfl, fun K hK => ?_⟩
      clear hs hb hx
      go_simp
      exact hK _ _ rfl (Ext.refl _)
    · intro a w hx hs hb
      obtain ⟨_, s82, rfl⟩ := hs 21 82 (by kernel_rfl) (by kernel_rfl)
      refine .inl ⟨wanted_free rfl, fun K hK => ?_⟩
      clear hs hb hx
      go_simp
      exact hK _ _ rfl (Ext.refl _)
    · intro a w hx hs hb
      obtain ⟨_, s83, rfl⟩ := hs 22 83 (by kernel_rfl) (by kernel_rfl)
      refine .inl ⟨wanted_yes 22 true 83 rfl (by kernel_rfl) s83, fun K hK => ?_⟩
      clear hs hb
      go_simp
      refine (play_ok _).mono ?_
      rintro e w' ⟨bq, rfl, hq, xq⟩
      exact hK _ _ ⟨bq, rfl, hq⟩ xq
    · intro a w hx hs hb
      obtain ⟨_, s83, rfl⟩ := hs 22 83 (by kernel_rfl) (by kernel_rfl)
      have s18 : a.tmps[(18 : Nat)]? = some (.pointer (some ⟨b7, 0, none⟩)) := (hb 18 (by kernel_rfl)).trans (by rfl)
      have c0 := hx.keeps _ _ C70.out
      have c1 := hx.keeps _ _ C71.out
      have c2 := hx.keeps _ _ C72.out
      refine .inl ⟨wanted_yes 22 true 83 rfl (by kernel_rfl) s83, fun K hK => ?_⟩
      clear hs hb hx
      go_simp
      exact hK _ _ rfl (Ext.refl _)
    · intro a w hx hs hb
      obtain ⟨_, s83, rfl⟩ := hs 22 83 (by kernel_rfl) (by kernel_rfl)
      obtain ⟨_, s84, bq, rfl, hq⟩ := hs 23 84 (by kernel_rfl) (by kernel_rfl)
      obtain ⟨_, s85, rfl⟩ := hs 24 85 (by kernel_rfl) (by kernel_rfl)
      refine .inl ⟨wanted_yes 22 true 83 rfl (by kernel_rfl) s83, fun K hK => ?_⟩
      clear hs hb
      go_simp
      refine (CK.out _ bq hq hx).mono ?_
      rintro e w' ⟨rfl, xq⟩
      exact hK _ _ rfl xq
    · intro a w hx hs hb
      obtain ⟨_, s83, rfl⟩ := hs 22 83 (by kernel_rfl) (by kernel_rfl)
      obtain ⟨_, s86, rfl⟩ := hs 25 86 (by kernel_rfl) (by kernel_rfl)
      refine .inl ⟨wanted_yes 22 true 83 rfl (by kernel_rfl) s83, fun K hK => ?_⟩
      clear hs hb hx
      go_simp
      exact hK _ _ rfl (Ext.refl _)
    · intro a w hx hs hb
      obtain ⟨_, s83, rfl⟩ := hs 22 83 (by kernel_rfl) (by kernel_rfl)
      obtain ⟨_, s87, rfl⟩ := hs 26 87 (by kernel_rfl) (by kernel_rfl)
      refine .inl ⟨wanted_free rfl, fun K hK => ?_⟩
      clear hs hb hx
      go_simp
      exact hK _ _ rfl (Ext.refl _)
    · intro a w hx hs hb
      obtain ⟨_, s88, rfl⟩ := hs 27 88 (by kernel_rfl) (by kernel_rfl)
      refine .inl ⟨wanted_free rfl, fun K hK => ?_⟩
      clear hs hb hx
      go_simp
      exact hK _ _ rfl (Ext.refl _)
    · intro a w hx hs hb
      obtain ⟨_, s89, rfl⟩ := hs 28 89 (by kernel_rfl) (by kernel_rfl)
      have s4 : a.tmps[(4 : Nat)]? = some (.bool false) := (hb 4 (by kernel_rfl)).trans (by rfl)
      refine .inl ⟨wanted_yes 28 true 89 rfl (by kernel_rfl) s89, fun K hK => ?_⟩
      clear hs hb hx
      go_simp
      exact hK _ _ rfl (Ext.refl _)
    · intro a w hx hs hb
      obtain ⟨_, s89, rfl⟩ := hs 28 89 (by kernel_rfl) (by kernel_rfl)
      obtain ⟨_, s90, rfl⟩ := hs 29 90 (by kernel_rfl) (by kernel_rfl)
      refine .inl ⟨wanted_yes 28 true 89 rfl (by kernel_rfl) s89, fun K hK => ?_⟩
      clear hs hb hx
      go_simp
      exact hK _ _ rfl (Ext.refl _)
    · intro a w hx hs hb
      obtain ⟨_, s89, rfl⟩ := hs 28 89 (by kernel_rfl) (by kernel_rfl)
      obtain ⟨_, s91, rfl⟩ := hs 30 91 (by kernel_rfl) (by kernel_rfl)
      refine .inl ⟨wanted_free rfl, fun K hK => ?_⟩
      clear hs hb hx
      go_simp
      exact hK _ _ rfl (Ext.refl _)
    · intro a w hx hs hb
      obtain ⟨_, s92, rfl⟩ := hs 31 92 (by kernel_rfl) (by kernel_rfl)
      refine .inl ⟨wanted_free rfl, fun K hK => ?_⟩
      clear hs hb hx
      go_simp
      exact hK _ _ rfl (Ext.refl _)
    · intro a w hx hs hb
      obtain ⟨_, s93, rfl⟩ := hs 32 93 (by kernel_rfl) (by kernel_rfl)
      have s7 : a.tmps[(7 : Nat)]? = some (.bool false) := (hb 7 (by kernel_rfl)).trans (by rfl)
      refine .inl ⟨wanted_yes 32 true 93 rfl (by kernel_rfl) s93, fun K hK => ?_⟩
      clear hs hb hx
      go_simp
      exact hK _ _ rfl (Ext.refl _)
    · intro a w hx hs hb
      obtain ⟨_, s93, rfl⟩ := hs 32 93 (by kernel_rfl) (by kernel_rfl)
      obtain ⟨_, s94, rfl⟩ := hs 33 94 (by kernel_rfl) (by kernel_rfl)
      refine .inl ⟨wanted_yes 32 true 93 rfl (by kernel_rfl) s93, fun K hK => ?_⟩
      clear hs hb hx
      go_simp
      exact hK _ _ rfl (Ext.refl _)
    · intro a w hx hs hb
      obtain ⟨_, s93, rfl⟩ := hs 32 93 (by kernel_rfl) (by kernel_rfl)
      obtain ⟨_, s95, rfl⟩ := hs 34 95 (by kernel_rfl) (by kernel_rfl)
      refine .inl ⟨wanted_free rfl, fun K hK => ?_⟩
      clear hs hb hx
      go_simp
      exact hK _ _ rfl (Ext.refl _)
    · intro a w hx hs hb
      obtain ⟨_, s96, rfl⟩ := hs 35 96 (by kernel_rfl) (by kernel_rfl)
      refine .inl ⟨wanted_free rfl, fun K hK => ?_⟩
      clear hs hb hx
      go_simp
      exact hK _ _ rfl (Ext.refl _)
    · intro a w hx hs hb
      obtain ⟨_, s97, rfl⟩ := hs 36 97 (by kernel_rfl) (by kernel_rfl)
      have s10 : a.tmps[(10 : Nat)]? = some (.bool true) := (hb 10 (by kernel_rfl)).trans (by rfl)
      refine .inl ⟨wanted_yes 36 true 97 rfl (by kernel_rfl) s97, fun K hK => ?_⟩
      clear hs hb hx
      go_simp
      exact hK _ _ rfl (Ext.refl _)
    · intro a w hx hs hb
      obtain ⟨_, s97, rfl⟩ := hs 36 97 (by kernel_rfl) (by kernel_rfl)
      obtain ⟨_, s98, rfl⟩ := hs 37 98 (by kernel_rfl) (by kernel_rfl)
      refine .inl ⟨wanted_free rfl, fun K hK => ?_⟩
      clear hs hb hx
      go_simp
      exact hK _ _ rfl (Ext.refl _)
    · intro a w hx hs hb
      obtain ⟨_, s99, rfl⟩ := hs 38 99 (by kernel_rfl) (by kernel_rfl)
      refine .inl ⟨wanted_free rfl, fun K hK => ?_⟩
      clear hs hb hx
      go_simp
      exact hK _ _ rfl (Ext.refl _)
    · intro a w hx hs hb
      obtain ⟨_, s100, rfl⟩ := hs 39 100 (by kernel_rfl) (by kernel_rfl)
      have s13 : a.tmps[(13 : Nat)]? = some (.bool false) := (hb 13 (by kernel_rfl)).trans (by rfl)
      refine .inl ⟨wanted_yes 39 true 100 rfl (by kernel_rfl) s100, fun K hK => ?_⟩
      clear hs hb hx
      go_simp
      exact hK _ _ rfl (Ext.refl _)
    · intro a w hx hs hb
      obtain ⟨_, s100, rfl⟩ := hs 39 100 (by kernel_rfl) (by kernel_rfl)
      obtain ⟨_, s101, rfl⟩ := hs 40 101 (by kernel_rfl) (by kernel_rfl)
      refine .inl ⟨wanted_yes 39 true 100 rfl (by kernel_rfl) s100, fun K hK => ?_⟩
      clear hs hb hx
      go_simp
      exact hK _ _ rfl (Ext.refl _)
    · intro a w hx hs hb
      obtain ⟨_, s100, rfl⟩ := hs 39 100 (by kernel_rfl) (by kernel_rfl)
      obtain ⟨_, s102, rfl⟩ := hs 41 102 (by kernel_rfl) (by kernel_rfl)
      refine .inl ⟨wanted_free rfl, fun K hK => ?_⟩
      clear hs hb hx
      go_simp
      exact hK _ _ rfl (Ext.refl _)
    · intro a w hx hs hb
      obtain ⟨_, s103, rfl⟩ := hs 42 103 (by kernel_rfl) (by kernel_rfl)
      refine .inl ⟨wanted_free rfl, fun K hK => ?_⟩
      clear hs hb hx
      go_simp
      exact hK _ _ rfl (Ext.refl _)
    · intro a w hx hs hb
      obtain ⟨_, s104, rfl⟩ := hs 43 104 (by kernel_rfl) (by kernel_rfl)
      have s3 : a.tmps[(3 : Nat)]? = some (.pointer (some ⟨b2, 0, none⟩)) := (hb 3 (by kernel_rfl)).trans (by rfl)
      refine .inl ⟨wanted_yes 43 true 104 rfl (by kernel_rfl) s104, fun K hK => ?_⟩
      clear hs hb hx
      go_simp
      exact hK _ _ rfl (Ext.refl _)
    · intro a w hx hs hb
      obtain ⟨_, s104, rfl⟩ := hs 43 104 (by kernel_rfl) (by kernel_rfl)
      obtain ⟨_, s105, rfl⟩ := hs 44 105 (by kernel_rfl) (by kernel_rfl)
      have c0 := hx.keeps _ _ C22.out
      refine .inl ⟨wanted_yes 43 true 104 rfl (by kernel_rfl) s104, fun K hK => ?_⟩
      clear hs hb hx
      go_simp
      exact hK _ _ rfl (Ext.refl _)
    · intro a w hx hs hb
      obtain ⟨_, s104, rfl⟩ := hs 43 104 (by kernel_rfl) (by kernel_rfl)
      obtain ⟨_, s106, rfl⟩ := hs 45 106 (by kernel_rfl) (by kernel_rfl)
      refine .inl ⟨wanted_yes 43 true 104 rfl (by kernel_rfl) s104, fun K hK => ?_⟩
      clear hs hb
      go_simp
      refine (T2.out _ hx).mono ?_
      rintro e w' ⟨AT, cT, rfl, hs, xq⟩
      exact hK _ _ ⟨AT, cT, rfl, hs _ (Ext.refl _)⟩ xq
    · intro a w hx hs hb
      obtain ⟨_, s104, rfl⟩ := hs 43 104 (by kernel_rfl) (by kernel_rfl)
      refine .inl ⟨wanted_yes 43 true 104 rfl (by kernel_rfl) s104, fun K hK => ?_⟩
      clear hs hb
      go_simp
      exact hK _ _ ⟨_, _, rfl, Sl.newAt _ _ [I 0, I 0, I 0] _ rfl⟩ ((Ext.refl _).alloc _)
    · intro a w hx hs hb
      obtain ⟨_, s104, rfl⟩ := hs 43 104 (by kernel_rfl) (by kernel_rfl)
      obtain ⟨_, s107, A107, c107, rfl, q107⟩ := hs 46 107 (by kernel_rfl) (by kernel_rfl)
      obtain ⟨_, s108, A108, c108, rfl, q108⟩ := hs 47 108 (by kernel_rfl) (by kernel_rfl)
      refine .inl ⟨wanted_yes 43 true 104 rfl (by kernel_rfl) s104, fun K hK => ?_⟩
      clear hs hb
      go_simp
      refine (SM.out _ _ _ _ [0, 0, 0] _ q107 q108).mono ?_
      rintro e w' ⟨rfl, xq⟩
      exact hK _ _ rfl xq
    · intro a w hx hs hb
      obtain ⟨_, s104, rfl⟩ := hs 43 104 (by kernel_rfl) (by kernel_rfl)
      obtain ⟨_, s109, rfl⟩ := hs 48 109 (by kernel_rfl) (by kernel_rfl)
      refine .inl ⟨wanted_free rfl, fun K hK => ?_⟩
      clear hs hb hx
      go_simp
      exact hK _ _ rfl (Ext.refl _)
    · intro a w hx hs hb
      obtain ⟨_, s110, rfl⟩ := hs 49 110 (by kernel_rfl) (by kernel_rfl)
      refine .inl ⟨wanted_free rfl, fun K hK => ?_⟩
      clear hs hb hx
      go_simp
      exact hK _ _ rfl (Ext.refl _)
    · intro a w hx hs hb
      obtain ⟨_, s111, rfl⟩ := hs 50 111 (by kernel_rfl) (by kernel_rfl)
      have s6 : a.tmps[(6 : Nat)]? = some (.pointer (some ⟨b3, 0, none⟩)) := (hb 6 (by kernel_rfl)).trans (by rfl)
      refine .inl ⟨wanted_yes 50 true 111 rfl (by kernel_rfl) s111, fun K hK => ?_⟩
      clear hs hb hx
      go_simp
      exact hK _ _ rfl (Ext.refl _)
    · intro a w hx hs hb
      obtain ⟨_, s111, rfl⟩ := hs 50 111 (by kernel_rfl) (by kernel_rfl)
      obtain ⟨_, s112, rfl⟩ := hs 51 112 (by kernel_rfl) (by kernel_rfl)
      have c0 := hx.keeps _ _ C32.out
      refine .inl ⟨wanted_yes 50 true 111 rfl (by kernel_rfl) s111, fun K hK => ?_⟩
      clear hs hb hx
      go_simp
      exact hK _ _ rfl (Ext.refl _)
    · intro a w hx hs hb
      obtain ⟨_, s111, rfl⟩ := hs 50 111 (by kernel_rfl) (by kernel_rfl)
      obtain ⟨_, s113, rfl⟩ := hs 52 113 (by kernel_rfl) (by kernel_rfl)
      refine .inl ⟨wanted_yes 50 true 111 rfl (by kernel_rfl) s111, fun K hK => ?_⟩
      clear hs hb
      go_simp
      refine (T3.out _ hx).mono ?_
      rintro e w' ⟨AT, cT, rfl, hs, xq⟩
      exact hK _ _ ⟨AT, cT, rfl, hs _ (Ext.refl _)⟩ xq
    · intro a w hx hs hb
      obtain ⟨_, s111, rfl⟩ := hs 50 111 (by kernel_rfl) (by kernel_rfl)
      refine .inl ⟨wanted_yes 50 true 111 rfl (by kernel_rfl) s111, fun K hK => ?_⟩
      clear hs hb
      go_simp
      exact hK _ _ ⟨_, _, rfl, Sl.newAt _ _ [I 1, I 1, I 0] _ rfl⟩ ((Ext.refl _).alloc _)
    · intro a w hx hs hb
      obtain ⟨_, s111, rfl⟩ := hs 50 111 (by kernel_rfl) (by kernel_rfl)
      obtain ⟨_, s114, A114, c114, rfl, q114⟩ := hs 53 114 (by kernel_rfl) (by kernel_rfl)
      obtain ⟨_, s115, A115, c115, rfl, q115⟩ := hs 54 115 (by kernel_rfl) (by kernel_rfl)
      refine .inl ⟨wanted_yes 50 true 111 rfl (by kernel_rfl) s111, fun K hK => ?_⟩
      clear hs hb
      go_simp
      refine (SM.out _ _ _ _ [1, 1, 0] _ q114 q115).mono ?_
      rintro e w' ⟨rfl, xq⟩
      exact hK _ _ rfl xq
    · intro a w hx hs hb
      obtain ⟨_, s111, rfl⟩ := hs 50 111 (by kernel_rfl) (by kernel_rfl)
      obtain ⟨_, s116, rfl⟩ := hs 55 116 (by kernel_rfl) (by kernel_rfl)
      refine .inl ⟨wanted_free rfl, fun K hK => ?_⟩
      clear hs hb hx
      go_simp
      exact hK _ _ rfl (Ext.refl _)
    · intro a w hx hs hb
      obtain ⟨_, s117, rfl⟩ := hs 56 117 (by kernel_rfl) (by kernel_rfl)
      refine .inl ⟨wanted_free rfl, fun K hK => ?_⟩
      clear hs hb hx
      go_simp
      exact hK _ _ rfl (Ext.refl _)
    · intro a w hx hs hb
      obtain ⟨_, s118, rfl⟩ := hs 57 118 (by kernel_rfl) (by kernel_rfl)
      have s9 : a.tmps[(9 : Nat)]? = some (.pointer (some ⟨b4, 0, none⟩)) := (hb 9 (by kernel_rfl)).trans (by rfl)
      refine .inl ⟨wanted_yes 57 true 118 rfl (by kernel_rfl) s118, fun K hK => ?_⟩
      clear hs hb hx
      go_simp
      exact hK _ _ rfl (Ext.refl _)
    · intro a w hx hs hb
      obtain ⟨_, s118, rfl⟩ := hs 57 118 (by kernel_rfl) (by kernel_rfl)
      obtain ⟨_, s119, rfl⟩ := hs 58 119 (by kernel_rfl) (by kernel_rfl)
      have c0 := hx.keeps _ _ C42.out
      refine .inl ⟨wanted_yes 57 true 118 rfl (by kernel_rfl) s118, fun K hK => ?_⟩
      clear hs hb hx
      go_simp
      exact hK _ _ rfl (Ext.refl _)
    · intro a w hx hs hb
      obtain ⟨_, s118, rfl⟩ := hs 57 118 (by kernel_rfl) (by kernel_rfl)
      obtain ⟨_, s120, rfl⟩ := hs 59 120 (by kernel_rfl) (by kernel_rfl)
      refine .inl ⟨wanted_yes 57 true 118 rfl (by kernel_rfl) s118, fun K hK => ?_⟩
      clear hs hb
      go_simp
      refine (T4.out _ hx).mono ?_
      rintro e w' ⟨AT, cT, rfl, hs, xq⟩
      exact hK _ _ ⟨AT, cT, rfl, hs _ (Ext.refl _)⟩ xq
    · intro a w hx hs hb
      obtain ⟨_, s118, rfl⟩ := hs 57 118 (by kernel_rfl) (by kernel_rfl)
      refine .inl ⟨wanted_yes 57 true 118 rfl (by kernel_rfl) s118, fun K hK => ?_⟩
      clear hs hb
      go_simp
      exact hK _ _ ⟨_, _, rfl, Sl.newAt _ _ [I 0, I 0, I 1] _ rfl⟩ ((Ext.refl _).alloc _)
    · intro a w hx hs hb
      obtain ⟨_, s118, rfl⟩ := hs 57 118 (by kernel_rfl) (by kernel_rfl)
      obtain ⟨_, s121, A121, c121, rfl, q121⟩ := hs 60 121 (by kernel_rfl) (by kernel_rfl)
      obtain ⟨_, s122, A122, c122, rfl, q122⟩ := hs 61 122 (by kernel_rfl) (by kernel_rfl)
      refine .inl ⟨wanted_yes 57 true 118 rfl (by kernel_rfl) s118, fun K hK => ?_⟩
      clear hs hb
      go_simp
      refine (SM.out _ _ _ _ [0, 0, 1] _ q121 q122).mono ?_
      rintro e w' ⟨rfl, xq⟩
      exact hK _ _ rfl xq
    · intro a w hx hs hb
      obtain ⟨_, s118, rfl⟩ := hs 57 118 (by kernel_rfl) (by kernel_rfl)
      obtain ⟨_, s123, rfl⟩ := hs 62 123 (by kernel_rfl) (by kernel_rfl)
      refine .inl ⟨wanted_free rfl, fun K hK => ?_⟩
      clear hs hb hx
      go_simp
      exact hK _ _ rfl (Ext.refl _)
    · intro a w hx hs hb
      obtain ⟨_, s124, rfl⟩ := hs 63 124 (by kernel_rfl) (by kernel_rfl)
      refine .inl ⟨wanted_free rfl, fun K hK => ?_⟩
      clear hs hb hx
      go_simp
      exact hK _ _ rfl (Ext.refl _)
    · intro a w hx hs hb
      obtain ⟨_, s125, rfl⟩ := hs 64 125 (by kernel_rfl) (by kernel_rfl)
      have s12 : a.tmps[(12 : Nat)]? = some (.pointer (some ⟨b5, 0, none⟩)) := (hb 12 (by kernel_rfl)).trans (by rfl)
      refine .inl ⟨wanted_yes 64 true 125 rfl (by kernel_rfl) s125, fun K hK => ?_⟩
      clear hs hb hx
      go_simp
      exact hK _ _ rfl (Ext.refl _)
    · intro a w hx hs hb
      obtain ⟨_, s125, rfl⟩ := hs 64 125 (by kernel_rfl) (by kernel_rfl)
      obtain ⟨_, s126, rfl⟩ := hs 65 126 (by kernel_rfl) (by kernel_rfl)
      have c0 := hx.keeps _ _ C52.out
      refine .inl ⟨wanted_yes 64 true 125 rfl (by kernel_rfl) s125, fun K hK => ?_⟩
      clear hs hb hx
      go_simp
      exact hK _ _ rfl (Ext.refl _)
    · intro a w hx hs hb
      obtain ⟨_, s125, rfl⟩ := hs 64 125 (by kernel_rfl) (by kernel_rfl)
      obtain ⟨_, s127, rfl⟩ := hs 66 127 (by kernel_rfl) (by kernel_rfl)
      refine .inl ⟨wanted_yes 64 true 125 rfl (by kernel_rfl) s125, fun K hK => ?_⟩
      clear hs hb
      go_simp
      refine (T5.out _ hx).mono ?_
      rintro e w' ⟨AT, cT, rfl, hs, xq⟩
      exact hK _ _ ⟨AT, cT, rfl, hs _ (Ext.refl _)⟩ xq
    · intro a w hx hs hb
      obtain ⟨_, s125, rfl⟩ := hs 64 125 (by kernel_rfl) (by kernel_rfl)
      refine .inl ⟨wanted_yes 64 true 125 rfl (by kernel_rfl) s125, fun K hK => ?_⟩
      clear hs hb
      go_simp
      exact hK _ _ ⟨_, _, rfl, Sl.newAt _ _ [I 0, I 0, I 0] _ rfl⟩ ((Ext.refl _).alloc _)
    · intro a w hx hs hb
      obtain ⟨_, s125, rfl⟩ := hs 64 125 (by kernel_rfl) (by kernel_rfl)
      obtain ⟨_, s128, A128, c128, rfl, q128⟩ := hs 67 128 (by kernel_rfl) (by kernel_rfl)
      obtain ⟨_, s129, A129, c129, rfl, q129⟩ := hs 68 129 (by kernel_rfl) (by kernel_rfl)
      refine .inl ⟨wanted_yes 64 true 125 rfl (by kernel_rfl) s125, fun K hK => ?_⟩
      clear hs hb
      go_simp
      refine (SM.out _ _ _ _ [0, 0, 0] _ q128 q129).mono ?_
      rintro e w' ⟨rfl, xq⟩
      exact hK _ _ rfl xq
    · intro a w hx hs hb
      obtain ⟨_, s125, rfl⟩ := hs 64 125 (by kernel_rfl) (by kernel_rfl)
      obtain ⟨_, s130, rfl⟩ := hs 69 130 (by kernel_rfl) (by kernel_rfl)
      refine .inl ⟨wanted_free rfl, fun K hK => ?_⟩
      clear hs hb hx
      go_simp
      exact hK _ _ rfl (Ext.refl _)
    · intro a w hx hs hb
      obtain ⟨_, s131, rfl⟩ := hs 70 131 (by kernel_rfl) (by kernel_rfl)
      refine .inl ⟨wanted_free rfl, fun K hK => ?_⟩
      clear hs hb hx
      go_simp
      exact hK _ _ rfl (Ext.refl _)
    · intro a w hx hs hb
      obtain ⟨_, s132, rfl⟩ := hs 71 132 (by kernel_rfl) (by kernel_rfl)
      have s3 : a.tmps[(3 : Nat)]? = some (.pointer (some ⟨b2, 0, none⟩)) := (hb 3 (by kernel_rfl)).trans (by rfl)
      refine .inl ⟨wanted_yes 71 true 132 rfl (by kernel_rfl) s132, fun K hK => ?_⟩
      clear hs hb hx
      go_simp
      exact hK _ _ rfl (Ext.refl _)
    · intro a w hx hs hb
      obtain ⟨_, s132, rfl⟩ := hs 71 132 (by kernel_rfl) (by kernel_rfl)
      obtain ⟨_, s133, rfl⟩ := hs 72 133 (by kernel_rfl) (by kernel_rfl)
      have c0 := hx.keeps _ _ C21.out
      refine .inl ⟨wanted_yes 71 true 132 rfl (by kernel_rfl) s132, fun K hK => ?_⟩
      clear hs hb hx
      go_simp
      exact hK _ _ rfl (Ext.refl _)
    · intro a w hx hs hb
      obtain ⟨_, s132, rfl⟩ := hs 71 132 (by kernel_rfl) (by kernel_rfl)
      obtain ⟨_, s134, rfl⟩ := hs 73 134 (by kernel_rfl) (by kernel_rfl)
      refine .inl ⟨wanted_yes 71 true 132 rfl (by kernel_rfl) s132, fun K hK => ?_⟩
      clear hs hb hx
      go_simp
      exact hK _ _ rfl (Ext.refl _)
    · intro a w hx hs hb
      obtain ⟨_, s132, rfl⟩ := hs 71 132 (by kernel_rfl) (by kernel_rfl)
      obtain ⟨_, s135, rfl⟩ := hs 74 135 (by kernel_rfl) (by kernel_rfl)
      refine .inl ⟨wanted_yes 71 true 132 rfl (by kernel_rfl) s132, fun K hK => ?_⟩
      clear hs hb hx
      go_simp
      exact hK _ _ rfl (Ext.refl _)
    · intro a w hx hs hb
      obtain ⟨_, s132, rfl⟩ := hs 71 132 (by kernel_rfl) (by kernel_rfl)
      obtain ⟨_, s136, rfl⟩ := hs 75 136 (by kernel_rfl) (by kernel_rfl)
      refine .inl ⟨wanted_free rfl, fun K hK => ?_⟩
      clear hs hb hx
      go_simp
      exact hK _ _ rfl (Ext.refl _)
    · intro a w hx hs hb
      obtain ⟨_, s137, rfl⟩ := hs 76 137 (by kernel_rfl) (by kernel_rfl)
      refine .inl ⟨wanted_free rfl, fun K hK => ?_⟩
      clear hs hb hx
      go_simp
      exact hK _ _ rfl (Ext.refl _)
    · intro a w hx hs hb
      obtain ⟨_, s138, rfl⟩ := hs 77 138 (by kernel_rfl) (by kernel_rfl)
      have s3 : a.tmps[(3 : Nat)]? = some (.pointer (some ⟨b2, 0, none⟩)) := (hb 3 (by kernel_rfl)).trans (by rfl)
      refine .inl ⟨wanted_yes 77 true 138 rfl (by kernel_rfl) s138, fun K hK => ?_⟩
      clear hs hb hx
      go_simp
      exact hK _ _ rfl (Ext.refl _)
    · intro a w hx hs hb
      obtain ⟨_, s138, rfl⟩ := hs 77 138 (by kernel_rfl) (by kernel_rfl)
      obtain ⟨_, s139, rfl⟩ := hs 78 139 (by kernel_rfl) (by kernel_rfl)
      have c0 := hx.keeps _ _ C21.out
      refine .inl ⟨wanted_yes 77 true 138 rfl (by kernel_rfl) s138, fun K hK => ?_⟩
      clear hs hb hx
      go_simp
      exact hK _ _ rfl (Ext.refl _)
    · intro a w hx hs hb
      obtain ⟨_, s138, rfl⟩ := hs 77 138 (by kernel_rfl) (by kernel_rfl)
      obtain ⟨_, s140, rfl⟩ := hs 79 140 (by kernel_rfl) (by kernel_rfl)
      refine .inl ⟨wanted_yes 77 true 138 rfl (by kernel_rfl) s138, fun K hK => ?_⟩
      clear hs hb hx
      go_simp
      exact hK _ _ rfl (Ext.refl _)
    · intro a w hx hs hb
      obtain ⟨_, s138, rfl⟩ := hs 77 138 (by kernel_rfl) (by kernel_rfl)
      obtain ⟨_, s141, rfl⟩ := hs 80 141 (by kernel_rfl) (by kernel_rfl)
      have c0 := hx.keeps _ _ D23.out
      refine .inl ⟨wanted_yes 77 true 138 rfl (by kernel_rfl) s138, fun K hK => ?_⟩
      clear hs hb hx
      go_simp
      exact hK _ _ rfl (Ext.refl _)
    · intro a w hx hs hb
      obtain ⟨_, s138, rfl⟩ := hs 77 138 (by kernel_rfl) (by kernel_rfl)
      obtain ⟨_, s142, rfl⟩ := hs 81 142 (by kernel_rfl) (by kernel_rfl)
      refine .inl ⟨wanted_free rfl, fun K hK => ?_⟩
      clear hs hb hx
      go_simp
      exact hK _ _ rfl (Ext.refl _)
    · intro a w hx hs hb
      obtain ⟨_, s143, rfl⟩ := hs 82 143 (by kernel_rfl) (by kernel_rfl)
      refine .inl ⟨wanted_free rfl, fun K hK => ?_⟩
      clear hs hb hx
      go_simp
      exact hK _ _ rfl (Ext.refl _)
    · intro a w hx hs hb
      obtain ⟨_, s144, rfl⟩ := hs 83 144 (by kernel_rfl) (by kernel_rfl)
      have s3 : a.tmps[(3 : Nat)]? = some (.pointer (some ⟨b2, 0, none⟩)) := (hb 3 (by kernel_rfl)).trans (by rfl)
      refine .inl ⟨wanted_yes 83 true 144 rfl (by kernel_rfl) s144, fun K hK => ?_⟩
      clear hs hb hx
      go_simp
      exact hK _ _ rfl (Ext.refl _)
    · intro a w hx hs hb
      obtain ⟨_, s144, rfl⟩ := hs 83 144 (by kernel_rfl) (by kernel_rfl)
      obtain ⟨_, s145, rfl⟩ := hs 84 145 (by kernel_rfl) (by kernel_rfl)
      have c0 := hx.keeps _ _ C21.out
      refine .inl ⟨wanted_yes 83 true 144 rfl (by kernel_rfl) s144, fun K hK => ?_⟩
      clear hs hb hx
      go_simp
      exact hK _ _ rfl (Ext.refl _)
    · intro a w hx hs hb
      obtain ⟨_, s144, rfl⟩ := hs 83 144 (by kernel_rfl) (by kernel_rfl)
      obtain ⟨_, s146, rfl⟩ := hs 85 146 (by kernel_rfl) (by kernel_rfl)
      refine .inl ⟨wanted_yes 83 true 144 rfl (by kernel_rfl) s144, fun K hK => ?_⟩
      clear hs hb hx
      go_simp
      exact hK _ _ rfl (Ext.refl _)
    · intro a w hx hs hb
      obtain ⟨_, s144, rfl⟩ := hs 83 144 (by kernel_rfl) (by kernel_rfl)
      obtain ⟨_, s147, rfl⟩ := hs 86 147 (by kernel_rfl) (by kernel_rfl)
      have c0 := hx.keeps _ _ D26.out
      refine .inl ⟨wanted_yes 83 true 144 rfl (by kernel_rfl) s144, fun K hK => ?_⟩
      clear hs hb hx
      go_simp
      exact hK _ _ rfl (Ext.refl _)
    · intro a w hx hs hb
      obtain ⟨_, s144, rfl⟩ := hs 83 144 (by kernel_rfl) (by kernel_rfl)
      obtain ⟨_, s148, rfl⟩ := hs 87 148 (by kernel_rfl) (by kernel_rfl)
      refine .inl ⟨wanted_free rfl, fun K hK => ?_⟩
      clear hs hb hx
      go_simp
      exact hK _ _ rfl (Ext.refl _)
    · intro a w hx hs hb
      obtain ⟨_, s149, rfl⟩ := hs 88 149 (by kernel_rfl) (by kernel_rfl)
      refine .inl ⟨wanted_free rfl, fun K hK => ?_⟩
      clear hs hb hx
      go_simp
      exact hK _ _ rfl (Ext.refl _)
    · intro a w hx hs hb
      obtain ⟨_, s150, rfl⟩ := hs 89 150 (by kernel_rfl) (by kernel_rfl)
      have s6 : a.tmps[(6 : Nat)]? = some (.pointer (some ⟨b3, 0, none⟩)) := (hb 6 (by kernel_rfl)).trans (by rfl)
      refine .inl ⟨wanted_yes 89 true 150 rfl (by kernel_rfl) s150, fun K hK => ?_⟩
      clear hs hb hx
      go_simp
      exact hK _ _ rfl (Ext.refl _)
    · intro a w hx hs hb
      obtain ⟨_, s150, rfl⟩ := hs 89 150 (by kernel_rfl) (by kernel_rfl)
      obtain ⟨_, s151, rfl⟩ := hs 90 151 (by kernel_rfl) (by kernel_rfl)
      have c0 := hx.keeps _ _ C31.out
      refine .inl ⟨wanted_yes 89 true 150 rfl (by kernel_rfl) s150, fun K hK => ?_⟩
      clear hs hb hx
      go_simp
      exact hK _ _ rfl (Ext.refl _)
    · intro a w hx hs hb
      obtain ⟨_, s150, rfl⟩ := hs 89 150 (by kernel_rfl) (by kernel_rfl)
      obtain ⟨_, s152, rfl⟩ := hs 91 152 (by kernel_rfl) (by kernel_rfl)
      refine .inl ⟨wanted_yes 89 true 150 rfl (by kernel_rfl) s150, fun K hK => ?_⟩
      clear hs hb hx
      go_simp
      exact hK _ _ rfl (Ext.refl _)
    · intro a w hx hs hb
      obtain ⟨_, s150, rfl⟩ := hs 89 150 (by kernel_rfl) (by kernel_rfl)
      obtain ⟨_, s153, rfl⟩ := hs 92 153 (by kernel_rfl) (by kernel_rfl)
      have c0 := hx.keeps _ _ D39.out
      refine .inl ⟨wanted_yes 89 true 150 rfl (by kernel_rfl) s150, fun K hK => ?_⟩
      clear hs hb hx
      go_simp
      exact hK _ _ rfl (Ext.refl _)
    · intro a w hx hs hb
      obtain ⟨_, s150, rfl⟩ := hs 89 150 (by kernel_rfl) (by kernel_rfl)
      obtain ⟨_, s154, rfl⟩ := hs 93 154 (by kernel_rfl) (by kernel_rfl)
      refine .inl ⟨wanted_free rfl, fun K hK => ?_⟩
      clear hs hb hx
      go_simp
      exact hK _ _ rfl (Ext.refl _)
    · intro a w hx hs hb
      obtain ⟨_, s155, rfl⟩ := hs 94 155 (by kernel_rfl) (by kernel_rfl)
      refine .inl ⟨wanted_free rfl, fun K hK => ?_⟩
      clear hs hb hx
      go_simp
      exact hK _ _ rfl (Ext.refl _)
  case last =>
    intro a w hx hsz hdf hs hb
    obtain ⟨_, s0, rfl⟩ := hs 95 0 (by kernel_rfl)
    have hx2 := HX.out.trans hx
    have hd : a.defers = [] := hdf
    clear hs hb hx hdf
    go_wp2
    refine bodyPost_ret (v := .bool true) (by simp [results, Try.results14, go_sem, s0]) hd ⟨rfl, hx2⟩
end Go.Proofs.Ytejpnbomlnifkaa
