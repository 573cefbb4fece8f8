/- Begin and Step of package walk. -/
import Derived.Test.YtejpnbomlnifkaaWalkRef6
import Derived.Test.YtejpnbomlnifkaaStepPlain
namespace Go.Proofs.Ytejpnbomlnifkaa
set_option linter.unusedVariables false
set_option linter.unusedSimpArgs false
open Go.RowKit

theorem Sl.far {w : World} {b off n : Nat} {cs : List Value} (h : Sl w (some ⟨b, off, none⟩) n cs) {g j : Nat} (hg : g ≠ b) (v : Value) : Sl (w.setCell ⟨g, j, none⟩ v) (some ⟨b, off, none⟩) n cs :=
  ⟨h.1, fun k u hu => by
    obtain ⟨b', off', e, hc⟩ := h.2 k u hu
    injection e with e; injection e with e1 e2
    subst e1; subst e2
    exact ⟨_, _, rfl, by rw [World.cell?_setCell_far _ _ _ _ hg]; exact hc⟩⟩
theorem RestC.far {w : World} {fr : Bool} {g1 g2 wn wc on oc : Nat} {r : RestM} (h : RestC w fr (some ⟨g1, 0, none⟩) wn wc (some ⟨g2, 0, none⟩) on oc r) {g j : Nat} (h1 : g ≠ g1) (h2 : g ≠ g2) (v : Value) :
    RestC (w.setCell ⟨g, j, none⟩ v) fr (some ⟨g1, 0, none⟩) wn wc (some ⟨g2, 0, none⟩) on oc r :=
  ⟨h.fresh, h.waits.far h1 v, h.outs.far h2 v, h.wl, h.ol⟩
theorem RestC.zero (w : World) : RestC w false none 0 0 none 0 0 zeroR := ⟨rfl, Sl.nil _ _, Sl.nil _ _, ⟨Nat.le_refl _, Nat.zero_le _⟩, ⟨Nat.le_refl _, Nat.zero_le _⟩⟩
/-- What is told of a rest with an error, and of a rest, a bit and an error. -/
def NewA (w : World) (A : Option Addr) : Prop := ∀ a, A = some a → w.heap.size ≤ a.block
theorem NewA.no (w : World) : NewA w none := fun a h => by cases h
theorem NewA.at {w : World} {g o : Nat} (h : w.heap.size ≤ g) : NewA w (some ⟨g, o, none⟩) := fun a e => by injection e with e; rw [← e]; exact h
theorem Sl.far' {w : World} {A : Option Addr} {n : Nat} {cs : List Value} (h : Sl w A n cs) {g j : Nat} (hg : ∀ a, A = some a → g ≠ a.block) (v : Value) : Sl (w.setCell ⟨g, j, none⟩ v) A n cs :=
  ⟨h.1, fun k u hu => by
    obtain ⟨b', off', e, hc⟩ := h.2 k u hu
    exact ⟨_, _, e, by rw [World.cell?_setCell_far _ _ _ _ (hg _ e)]; exact hc⟩⟩
theorem RestC.far' {w : World} {fr : Bool} {WA OA : Option Addr} {wn wc on oc : Nat} {r : RestM} (h : RestC w fr WA wn wc OA on oc r) {g j : Nat} (h1 : ∀ a, WA = some a → g ≠ a.block) (h2 : ∀ a, OA = some a → g ≠ a.block) (v : Value) :
    RestC (w.setCell ⟨g, j, none⟩ v) fr WA wn wc OA on oc r :=
  ⟨h.fresh, h.waits.far' h1 v, h.outs.far' h2 v, h.wl, h.ol⟩
def RestE (w w' : World) (e : Ending) (r : RestM) (x : Int) : Prop :=
  ∃ fr WA wn wc OA on oc, e = .returned (Pr (restV fr WA wn wc OA on oc) (I x)) ∧ RestC w' fr WA wn wc OA on oc r ∧ NewA w WA ∧ NewA w OA ∧ Ext w w'
def RestB (w w' : World) (e : Ending) (r : RestM) (b : Bool) (x : Int) : Prop :=
  ∃ fr WA wn wc OA on oc, e = .returned (Pr3 (restV fr WA wn wc OA on oc) (Bv b) (I x)) ∧ RestC w' fr WA wn wc OA on oc r ∧ NewA w WA ∧ NewA w OA ∧ Ext w w'

set_option maxHeartbeats 2000000 in
theorem walkBegin_any (PA : Option Addr) (n pc : Nat) (p : List PNode) (w : World) (hp : SlN w PA n p) (hn : n ≤ maxLen) :
    Calls Try.prog 11 #[.slice PA n pc] w fun e w' => RestE w w' e (beginM p).1 (beginM p).2 := by
  generalize hM : beginM p = M
  unfold beginM at hM
  have hpl := hp.1
  obtain ⟨W, hW⟩ : ∃ W, W = w.alloc (.cells #[.bool false, .slice none 0 0, .slice none 0 0] 39) := ⟨_, rfl⟩
  have hxW : Ext w W := by rw [hW]; exact (Ext.refl _).alloc _
  obtain ⟨q0, q1, q2, hsz⟩ := restBox w false none 0 0 none 0 0 hW
  have f1 : ∀ j, W.frozen? ⟨w.heap.size, j, none⟩ = false := fun j => by rw [hW]; exact World.frozen?_alloc_at _ _ _ _ rfl
  have CK := Lib.hid (progCheck_any PA n pc p W (hp.keep hxW.keeps) hn)
  have HW := Lib.hid hW; clear hp hW
  by_cases h0 : checkP p ≠ 0
  · rw [if_pos h0] at hM
    have HM := Lib.hid hM; clear hM
    go_enter Try.func11, Try.ntmps11
    go_wp2_with fail
    rw [← HW.out]
    refine CK.out.mono ?_; rintro e w1 ⟨rfl, hx1⟩
    have z0 := hx1.keeps _ _ q0; have z1 := hx1.keeps _ _ q1; have z2 := hx1.keeps _ _ q2
    have ff : ∀ j, w1.frozen? ⟨w.heap.size, j, none⟩ = false := fun j => by rw [World.frozen?_of_block (a := ⟨w.heap.size, j, none⟩) (hx1.block _ hsz)]; exact f1 j
    go_wp2
    refine bodyPost_ret (v := Pr (restV false none 0 0 none 0 0) (I (checkP p))) (by simp [results, Try.results11, go_sem, z0, z1, z2]) rfl ⟨false, none, 0, 0, none, 0, 0, by rw [← HM.out], by rw [← HM.out]; exact RestC.zero _, NewA.no _, NewA.no _, ?_⟩
    exact (((hxW.trans hx1).setCell (Nat.le_refl _) _).setCell (Nat.le_refl _) _).setCell (Nat.le_refl _) _
  · rw [if_neg h0] at hM
    have h00 : checkP p = 0 := by simpa using h0
    have HM := Lib.hid hM; have H00 := Lib.hid h00
    have hn14 : n ≤ 14 := by have := (checkP_ok h00).1; omega
    clear hM h00 h0
    go_enter Try.func11, Try.ntmps11
    go_wp2_with fail
    rw [← HW.out]
    refine CK.out.mono ?_; rintro e w1 ⟨rfl, hx1⟩; rw [H00.out]
    have hs1 : w.heap.size < w1.heap.size := Nat.lt_of_lt_of_le hsz hx1.size
    go_wp2_with fail
    refine (fresh_any PA n pc w1 hn14).mono ?_; rintro e w2 ⟨g1, g2, rfl, hg1, hg2, hne, hW, hO, hx2⟩
    have hx := hx1.trans hx2
    have z0 := hx.keeps _ _ q0; have z1 := hx.keeps _ _ q1; have z2 := hx.keeps _ _ q2
    have ff : ∀ j, w2.frozen? ⟨w.heap.size, j, none⟩ = false := fun j => by rw [World.frozen?_of_block (a := ⟨w.heap.size, j, none⟩) (hx.block _ hsz)]; exact f1 j
    have n1 : w.heap.size ≠ g1 := by omega
    have n2 : w.heap.size ≠ g2 := by omega
    have hR : RestC w2 true (some ⟨g1, 0, none⟩) n n (some ⟨g2, 0, none⟩) 3 3 (freshM p.length) := by
      obtain ⟨A, c, e, -, -, s1⟩ := own_sl hW
      injection e with e _ _; subst e
      obtain ⟨A, c, e, -, -, s2⟩ := own_sl hO
      injection e with e _ _; subst e
      exact ⟨rfl, by rw [hpl]; exact s1, s2, ⟨Nat.le_refl _, by unfold maxLen; omega⟩, ⟨Nat.le_refl _, by unfold maxLen; omega⟩⟩
    have HR := Lib.hid hR; have HX := Lib.hid (hxW.trans hx)
    have d1 : (⟨w.heap.size, 0, none⟩ : Addr) ≠ ⟨w.heap.size, 1, none⟩ := by simp
    clear hR hx hx1 hx2 hW hO hxW q0 q1 q2
    go_wp2
    refine bodyPost_ret (v := Pr (restV true (some ⟨g1, 0, none⟩) n n (some ⟨g2, 0, none⟩) 3 3) (I 0)) (by simp [results, Try.results11, go_sem, z0, z1, z2]) rfl ⟨true, _, n, n, _, 3, 3, by rw [← HM.out], by rw [← HM.out]; exact ((HR.out.far n1 n2 _).far n1 n2 _).far n1 n2 _, NewA.at (by omega), NewA.at (by omega), ?_⟩
    exact ((HX.out.setCell (Nat.le_refl _) _).setCell (Nat.le_refl _) _).setCell (Nat.le_refl _) _
end Go.Proofs.Ytejpnbomlnifkaa
