/- walk.Turn walked. -/
import Derived.Test.YtejpnbomlnifkaaWalkOn
namespace Go.Proofs.Ytejpnbomlnifkaa
set_option linter.unusedVariables false
set_option linter.unusedSimpArgs false
open Go.RowKit
attribute [local go_sem ↓] Go.wp_at_zero Go.wp_at_succ

abbrev restV (fr : Bool) (WA : Option Addr) (wn wc : Nat) (OA : Option Addr) (on oc : Nat) : Value := .agg #[Bv fr, .slice WA wn wc, .slice OA on oc]
/-- The three cells of a rest that reads as r. -/
structure RestC (w : World) (fr : Bool) (WA : Option Addr) (wn wc : Nat) (OA : Option Addr) (on oc : Nat) (r : RestM) : Prop where
  fresh : r.fresh = fr
  waits : Sl w WA wn (r.waits.map Bv)
  outs : Sl w OA on (r.outs.map Bv)
  wl : wn ≤ wc ∧ wc ≤ maxLen
  ol : on ≤ oc ∧ oc ≤ maxLen
theorem RestC.keep {w w' : World} {fr : Bool} {WA : Option Addr} {wn wc : Nat} {OA : Option Addr} {on oc : Nat} {r : RestM} (h : RestC w fr WA wn wc OA on oc r) (hk : Keeps w w') : RestC w' fr WA wn wc OA on oc r :=
  ⟨h.fresh, h.waits.keep hk, h.outs.keep hk, h.wl, h.ol⟩
/-- What is told of a rest that came of an instant. -/
def TurnOK (w w' : World) (n : Nat) (e : Ending) (M : Bool × StM) : Prop :=
  ∃ g1 g2, e = .returned (Pr (restV false (some ⟨g1, 0, none⟩) n n (some ⟨g2, 0, none⟩) 3 3) (Bv M.1)) ∧ w.heap.size ≤ g1 ∧ w.heap.size ≤ g2 ∧ RestC w' false (some ⟨g1, 0, none⟩) n n (some ⟨g2, 0, none⟩) 3 3 ⟨false, M.2.W, M.2.O⟩ ∧ Ext w w'

set_option maxRecDepth 100000 in
set_option maxHeartbeats 8000000 in
theorem turn_any (PA : Option Addr) (n pc : Nat) (t : Tr) (fr : Bool) (WA : Option Addr) (wn wc : Nat) (OA : Option Addr) (on oc : Nat) (r : RestM) (ins : Int) (w : World)
    (hp : SlN w PA n t.flat) (ok : t.ok) (hg : ∀ x ∈ t.flat, goodN x) (hs : t.size ≤ 14) (hr : RestC w fr WA wn wc OA on oc r) (hwl : r.waits.length = t.size) (hol : r.outs.length = 3) (hV : waitsOK t.flat r.waits) (h0 : 0 ≤ ins) (h8 : ins < 8) :
    Calls Try.prog 35 #[.slice PA n pc, restV fr WA wn wc OA on oc, I ins] w fun e w' => TurnOK w w' n e (turnM t r ins) := by
  have hn : n = t.size := by rw [← flat_size, hp.1]
  have hwn : wn = n := by have := hr.waits.len; omega
  have hon : on = 3 := by have := hr.outs.len; omega
  subst hwn; subst hon
  have hwc := hr.wl.1
  have hn14 : wn ≤ 14 := by omega
  have HP := Lib.hid hp; have HR := Lib.hid hr; have HN := Lib.hid hn
  generalize hM : turnM t r ins = M
  unfold turnM at hM
  rw [hr.fresh] at hM
  have HM := Lib.hid hM
  have HOK := Lib.hid ok; have HG := Lib.hid hg; have HV := Lib.hid hV
  clear hp hr hn hM hwl hol ok hg hV
  have f0 : w.heap.size + 1 < ((w.alloc (.cells #[Bv fr, .slice WA wn wc, .slice OA 3 oc] 39)).alloc (.cells #[.bool false, .slice none 0 0, .slice none 0 0] 39)).heap.size := by simp
  have f1 : ∀ j, ((w.alloc (.cells #[Bv fr, .slice WA wn wc, .slice OA 3 oc] 39)).alloc (.cells #[.bool false, .slice none 0 0, .slice none 0 0] 39)).frozen? ⟨w.heap.size + 1, j, none⟩ = false := fun j => World.frozen?_alloc_at _ _ _ _ (by simp)
  have HF1 := Lib.hid f1; have HF0 := Lib.hid f0; clear f0 f1
  go_enter Try.func35, Try.ntmps35
  go_wp2_with fail
  have hx2 : Ext w ((w.alloc (.cells #[Bv fr, .slice WA wn wc, .slice OA 3 oc] 39)).alloc (.cells #[.bool false, .slice none 0 0, .slice none 0 0] 39)) := ((Ext.refl w).alloc _).alloc _
  have z0 : ((w.alloc (.cells #[Bv fr, .slice WA wn wc, .slice OA 3 oc] 39)).alloc (.cells #[.bool false, .slice none 0 0, .slice none 0 0] 39)).cell? ⟨w.heap.size, 0, none⟩ = some (Bv fr) := by go_simp
  have z1 : ((w.alloc (.cells #[Bv fr, .slice WA wn wc, .slice OA 3 oc] 39)).alloc (.cells #[.bool false, .slice none 0 0, .slice none 0 0] 39)).cell? ⟨w.heap.size, 1, none⟩ = some (.slice WA wn wc) := by go_simp
  have z2 : ((w.alloc (.cells #[Bv fr, .slice WA wn wc, .slice OA 3 oc] 39)).alloc (.cells #[.bool false, .slice none 0 0, .slice none 0 0] 39)).cell? ⟨w.heap.size, 2, none⟩ = some (.slice OA 3 oc) := by go_simp
  have y0 : ((w.alloc (.cells #[Bv fr, .slice WA wn wc, .slice OA 3 oc] 39)).alloc (.cells #[.bool false, .slice none 0 0, .slice none 0 0] 39)).cell? ⟨w.heap.size + 1, 0, none⟩ = some (.bool false) := by go_simp
  have y1 : ((w.alloc (.cells #[Bv fr, .slice WA wn wc, .slice OA 3 oc] 39)).alloc (.cells #[.bool false, .slice none 0 0, .slice none 0 0] 39)).cell? ⟨w.heap.size + 1, 1, none⟩ = some (.slice none 0 0) := by go_simp
  have y2 : ((w.alloc (.cells #[Bv fr, .slice WA wn wc, .slice OA 3 oc] 39)).alloc (.cells #[.bool false, .slice none 0 0, .slice none 0 0] 39)).cell? ⟨w.heap.size + 1, 2, none⟩ = some (.slice none 0 0) := by go_simp
  generalize (w.alloc (.cells #[Bv fr, .slice WA wn wc, .slice OA 3 oc] 39)).alloc (.cells #[.bool false, .slice none 0 0, .slice none 0 0] 39) = W2 at *
  go_region_held3 (fun w' => w'.cell? ⟨w.heap.size, 0, none⟩ = some (Bv fr) ∧ w'.cell? ⟨w.heap.size, 1, none⟩ = some (.slice WA wn wc) ∧ w'.cell? ⟨w.heap.size, 2, none⟩ = some (.slice OA 3 oc))
    (first | exact ⟨x1.keeps _ _ z0, x1.keeps _ _ z1, x1.keeps _ _ z2⟩ | go_keep)
    (first | (go_at_call 28; refine (fresh_any PA wn pc W2.drew hn14).mono ?_; rintro e w1 ⟨g1, g2, rfl, hg1, hg2, hne, hW, hO, x1⟩))
  have hx3 := (hx2.trans ((Ext.refl W2).drew)).trans x1
  have hg1' := (hW.lt g1 rfl).2; have hg2' := (hO.lt g2 rfl).2
  have hz2 : w.heap.size + 2 ≤ W2.drew.heap.size := by have := HF0.out; show _ ≤ W2.heap.size; omega
  have hsz : w.heap.size + 2 ≤ w1.heap.size := Nat.le_trans hz2 x1.size
  have mkW : ∀ Q : World, Q = w1.alloc (.cells #[.slice PA wn pc, Bv fr, .slice WA wn wc, .slice OA 3 oc, .bool false, .slice (some ⟨g1, 0, none⟩) wn wn, .slice (some ⟨g2, 0, none⟩) 3 3, I ins] 84) →
      WSt w w1.heap.size g1 g2 PA wn pc fr WA wc OA oc ins Q ⟨List.replicate wn false, [false, false, false]⟩ ∧ Ext W2 Q := fun Q hQ => by
    subst hQ
    have ha : Ext w1 (w1.alloc (.cells #[.slice PA wn pc, Bv fr, .slice WA wn wc, .slice OA 3 oc, .bool false, .slice (some ⟨g1, 0, none⟩) wn wn, .slice (some ⟨g2, 0, none⟩) 3 3, I ins] 84)) := (Ext.refl w1).alloc _
    refine ⟨⟨hx3.trans ha, by omega, by omega, by omega, by omega, by omega, hne, ?_, ?_, ?_, ?_, ?_, ?_, ?_, ?_, own_base (own_ext hW ha) (by omega), own_base (own_ext hO ha) (by omega)⟩, (((Ext.refl W2).drew).trans x1).trans ha⟩
    all_goals (rw [World.cell?_alloc_new]; rfl)
  have tail : ∀ (w2 : World) (st : StM), WSt w w1.heap.size g1 g2 PA wn pc fr WA wc OA oc ins w2 st → (∃ Q, Ext W2 Q ∧ Off g1 g2 Q w2) →
      (w2.cell? ⟨w.heap.size + 1, 0, none⟩ = some (.bool false) ∧ w2.cell? ⟨w.heap.size + 1, 1, none⟩ = some (.slice none 0 0) ∧ w2.cell? ⟨w.heap.size + 1, 2, none⟩ = some (.slice none 0 0)) ∧ (∀ j, w2.frozen? ⟨w.heap.size + 1, j, none⟩ = false) ∧
      ∀ v0 v1 v2, RestC (((w2.setCell ⟨w.heap.size + 1, 0, none⟩ v0).setCell ⟨w.heap.size + 1, 1, none⟩ v1).setCell ⟨w.heap.size + 1, 2, none⟩ v2) false (some ⟨g1, 0, none⟩) wn wn (some ⟨g2, 0, none⟩) 3 3 ⟨false, st.W, st.O⟩ ∧
        Ext w (((w2.setCell ⟨w.heap.size + 1, 0, none⟩ v0).setCell ⟨w.heap.size + 1, 1, none⟩ v1).setCell ⟨w.heap.size + 1, 2, none⟩ v2) := fun w2 st hw ⟨Q, hQ, ho⟩ => by
    have n1 : w.heap.size + 1 ≠ g1 := by omega
    have n2 : w.heap.size + 1 ≠ g2 := by omega
    refine ⟨⟨ho.cell (hQ.keeps _ _ y0) n1 n2, ho.cell (hQ.keeps _ _ y1) n1 n2, ho.cell (hQ.keeps _ _ y2) n1 n2⟩, fun j => ?_, fun v0 v1 v2 => ⟨⟨rfl, ?_, ?_, ⟨Nat.le_refl _, by unfold maxLen; omega⟩, ⟨Nat.le_refl _, by unfold maxLen; omega⟩⟩, ?_⟩⟩
    · have hb : w.heap.size + 1 < W2.heap.size := HF0.out
      have e1 : w2.heap[w.heap.size + 1]? = Q.heap[w.heap.size + 1]? := ho.block _ (Nat.lt_of_lt_of_le hb hQ.size) n1 n2
      have e2 : Q.heap[w.heap.size + 1]? = W2.heap[w.heap.size + 1]? := hQ.block _ hb
      rw [World.frozen?_of_block (a := ⟨w.heap.size + 1, j, none⟩) (e1.trans e2)]; exact HF1.out j
    · obtain ⟨A, c, hv, -, -, hsl⟩ := own_sl (own_other (g := w.heap.size + 1) (j := 2) (u := v2) (own_other (g := w.heap.size + 1) (j := 1) (u := v1) (own_other (g := w.heap.size + 1) (j := 0) (u := v0) hw.W (fun e => n1 (Option.some.inj e).symm)) (fun e => n1 (Option.some.inj e).symm)) (fun e => n1 (Option.some.inj e).symm))
      injection hv with hA _ _; subst hA; exact hsl
    · obtain ⟨A, c, hv, -, -, hsl⟩ := own_sl (own_other (g := w.heap.size + 1) (j := 2) (u := v2) (own_other (g := w.heap.size + 1) (j := 1) (u := v1) (own_other (g := w.heap.size + 1) (j := 0) (u := v0) hw.O (fun e => n2 (Option.some.inj e).symm)) (fun e => n2 (Option.some.inj e).symm)) (fun e => n2 (Option.some.inj e).symm))
      injection hv with hA _ _; subst hA; exact hsl
    · exact ((hw.ext.setCell (by show w.heap.size ≤ w.heap.size + 1; omega) _).setCell (by show w.heap.size ≤ w.heap.size + 1; omega) _).setCell (by show w.heap.size ≤ w.heap.size + 1; omega) _
  have zk : ∀ Q, Ext W2 Q → Q.cell? ⟨w.heap.size, 0, none⟩ = some (Bv fr) := fun Q hQ => hQ.keeps _ _ z0
  have hz1 : w1.cell? ⟨w.heap.size, 0, none⟩ = some (Bv fr) := ((Ext.refl W2).drew.trans x1).keeps _ _ z0
  have MK := Lib.hid mkW; have TL := Lib.hid tail
  have hwsz : w.heap.size < w1.heap.size := by omega
  clear mkW tail zk z0 z1 z2 y0 y1 y2 hx3 hg1' hg2' hz2 hsz hW hO x1 hx2 hg1 hg2 hne
  cases fr
  · have hm := HM.out
    simp only [Bool.false_eq_true, if_false] at hm
    cases hsome : someT r.waits t 0
    · rw [hsome] at hm
      simp only [Bool.false_eq_true, if_false] at hm
      rw [← HN.out] at hm
      have HM1 := Lib.hid hm; have HSO := Lib.hid hsome; clear hm hsome HM
      go_wp2_with fail
      obtain ⟨hw, hx⟩ := MK.out _ rfl
      refine (wsome_any w w1.heap.size g1 g2 PA wn pc false WA wc OA oc ins _ _ hw t.flat r.waits HP.out HR.out.waits hwc hn14 0 t (TreeAt.root t) HOK.out).mono ?_; rintro e w2 ⟨rfl, rfl⟩; rw [HSO.out]
      generalize hW2 : w1.alloc (.cells #[.slice PA wn pc, Bv false, .slice WA wn wc, .slice OA 3 oc, .bool false, .slice (some ⟨g1, 0, none⟩) wn wn, .slice (some ⟨g2, 0, none⟩) 3 3, I ins] 84) = w2 at *
      have HS2 := Lib.hid hw; have HO2 : Hid (∃ Q, Ext W2 Q ∧ Off g1 g2 Q w2) := ⟨w2, hx, Off.refl _ _ _⟩; clear hw hx hW2
      obtain ⟨⟨y0, y1, y2⟩, yf, yr⟩ := TL.out w2 _ HS2.out HO2.out
      have c4 := HS2.out.c4; have c5 := HS2.out.c5; have c6 := HS2.out.c6
      have YR := Lib.hid yr; clear yr
      go_wp2
      refine bodyPost_ret (v := Pr (restV false (some ⟨g1, 0, none⟩) wn wn (some ⟨g2, 0, none⟩) 3 3) (Bv false)) (by simp [results, Try.results35, go_sem, y0, y1, y2]) rfl ⟨g1, g2, by rw [← HM1.out] <;> rfl, HS2.out.h1, HS2.out.h2, by rw [← HM1.out]; exact (YR.out _ _ _).1, (YR.out _ _ _).2⟩
    · rw [hsome] at hm
      simp only [if_true] at hm
      rw [← HN.out] at hm
      have HM1 := Lib.hid hm; have HSO := Lib.hid hsome; clear hm hsome HM
      go_wp2_with fail
      obtain ⟨hw, hx⟩ := MK.out _ rfl
      refine (wsome_any w w1.heap.size g1 g2 PA wn pc false WA wc OA oc ins _ _ hw t.flat r.waits HP.out HR.out.waits hwc hn14 0 t (TreeAt.root t) HOK.out).mono ?_; rintro e w2 ⟨rfl, rfl⟩; rw [HSO.out]
      have HW0 := Lib.hid hw; have HX0 := Lib.hid hx; clear hw hx
      go_wp2_with fail
      refine (won_any w w1.heap.size g1 g2 PA wn pc false WA wc OA oc ins t.flat r.outs r.waits HP.out HR.out.outs HR.out.waits hwc hn14 h0 h8 HV.out t 0 (TreeAt.root t) HOK.out HG.out _ _ HW0.out HSO.out).mono ?_; rintro e w2 ⟨rfl, hs2, o2⟩
      have HS2 := Lib.hid hs2; have HO2 : Hid (∃ Q, Ext W2 Q ∧ Off g1 g2 Q w2) := ⟨_, HX0.out, o2⟩; clear hs2 o2
      obtain ⟨⟨y0, y1, y2⟩, yf, yr⟩ := TL.out w2 _ HS2.out HO2.out
      have c4 := HS2.out.c4; have c5 := HS2.out.c5; have c6 := HS2.out.c6
      have YR := Lib.hid yr; clear yr
      go_wp2
      refine bodyPost_ret (v := Pr (restV false (some ⟨g1, 0, none⟩) wn wn (some ⟨g2, 0, none⟩) 3 3) (Bv (onT (thereM ins) (wasM r.outs) r.waits t 0 ⟨List.replicate wn false, [false, false, false]⟩).1)) (by simp [results, Try.results35, go_sem, y0, y1, y2]) rfl ⟨g1, g2, by rw [← HM1.out] <;> rfl, HS2.out.h1, HS2.out.h2, by rw [← HM1.out]; exact (YR.out _ _ _).1, (YR.out _ _ _).2⟩
  · have hm := HM.out
    simp only [if_true] at hm
    rw [← HN.out] at hm
    have HM1 := Lib.hid hm; clear hm HM
    go_wp2_with fail
    obtain ⟨hw, hx⟩ := MK.out _ rfl
    refine (wbegin_any w w1.heap.size g1 g2 PA wn pc true WA wc OA oc ins t.flat r.outs HP.out HR.out.outs hn14 h0 h8 t 0 (TreeAt.root t) HOK.out HG.out _ _ hw).mono ?_; rintro e w2 ⟨rfl, hs2, o2⟩
    have HS2 := Lib.hid hs2; have HO2 : Hid (∃ Q, Ext W2 Q ∧ Off g1 g2 Q w2) := ⟨_, hx, o2⟩; clear hs2 o2 hw hx
    obtain ⟨⟨y0, y1, y2⟩, yf, yr⟩ := TL.out w2 _ HS2.out HO2.out
    have c4 := HS2.out.c4; have c5 := HS2.out.c5; have c6 := HS2.out.c6
    have YR := Lib.hid yr; clear yr
    go_wp2
    refine bodyPost_ret (v := Pr (restV false (some ⟨g1, 0, none⟩) wn wn (some ⟨g2, 0, none⟩) 3 3) (Bv (beginT (thereM ins) (wasM r.outs) t 0 ⟨List.replicate wn false, [false, false, false]⟩).1)) (by simp [results, Try.results35, go_sem, y0, y1, y2]) rfl ⟨g1, g2, by rw [← HM1.out] <;> rfl, HS2.out.h1, HS2.out.h2, by rw [← HM1.out]; exact (YR.out _ _ _).1, (YR.out _ _ _).2⟩
end Go.Proofs.Ytejpnbomlnifkaa
