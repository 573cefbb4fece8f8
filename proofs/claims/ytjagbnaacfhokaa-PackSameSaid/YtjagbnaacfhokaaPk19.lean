/- Step of pack, by the program and by the reference. -/
import Derived.Test.YtjagbnaacfhokaaPk18
namespace Go.Proofs.Ytjagbnaacfhokaa
set_option linter.unusedVariables false
set_option linter.unusedSimpArgs false
open Go.RowKit

theorem orderV_ok {N : NetM} (h : (orderV N).2 = 0) : NetOK N ∧ checkN N = 0 ∧ ∃ l, orderM N.gates = some l ∧ orderV N = (l, 0) := by
  unfold orderV at h ⊢
  by_cases hc : checkN N = 0
  · rw [if_neg (by simp [hc])] at h ⊢
    cases ho : orderM N.gates with
    | none => rw [ho] at h; simp at h
    | some l => exact ⟨checkN_ok hc, hc, l, rfl, rfl⟩
  · rw [if_pos hc] at h; exact absurd h hc
def packE (N : NetM) (rl il : Nat) : Int := if (orderV N).2 ≠ 0 then (orderV N).2 else if rl ≠ N.regs.length ∨ (il : Int) ≠ N.ins then 1 else 0
def packV (N : NetM) (regs ins : List (BitVec 64)) : List (BitVec 64) × List (BitVec 64) := if packE N regs.length ins.length = 0 then playW N regs ins else ([], [])
/-- Two rows of words that a call made. -/
def TwoOwnU (w w' : World) (vo vn : Value) (q : List (BitVec 64) × List (BitVec 64)) : Prop :=
  w'.ownsRow w.heap.size 79 1 vo q.1.length (q.1.map U) ∧ w'.ownsRow w.heap.size 79 1 vn q.2.length (q.2.map U) ∧ Ext w w'
theorem do_lane {N : NetM} {l : List Int} (hc : checkN N = 0) (hO : orderM N.gates = some l) {k : Nat} (hk : k < 64) {regs ins : List (BitVec 64)} (hr : regs.length = N.regs.length) (hi : (ins.length : Int) = N.ins) :
    doE N (laneI k regs) (laneI k ins) = 0 ∧ doQ N (laneI k regs) (laneI k ins) = (laneI k (playW N regs ins).1, laneI k (playW N regs ins).2) := by
  have ha : askedM N (laneI k regs) (laneI k ins) = 0 := by
    unfold askedM
    rw [if_neg (by simp [hc]), if_neg (by simp [lane_len, hr, hi]), goodL_any (good01 (lane_01 k regs)).1, goodL_any (good01 (lane_01 k ins)).1]
    simp
  have ht := turn_lane (checkN_ok hc) hO hk regs ins
  constructor
  · unfold doE; rw [if_neg (by simp [ha]), ht]; rfl
  · unfold doQ turnQ; rw [if_neg (by simp [ha]), ht]; rfl
theorem sl_block {w : World} {A : Option Addr} {n : Nat} {f : BitVec 64 → Value} {xs : List (BitVec 64)} (h : Sl w A n (xs.map f)) {vb : Nat} (hv : w.heap.size ≤ vb) : ∀ p, A = some p → 0 < n → p.block ≠ vb := by
  intro p e hn
  obtain ⟨b, off, x, e2, hc, -⟩ := h.at_ hn
  rw [e] at e2; injection e2 with e2; subst e2
  have := lt_of_cell hc
  show b ≠ vb
  simp only at this
  omega

section
variable (i : Int) (GA : Option Addr) (gn gc : Nat) (RA : Option Addr) (rn rc : Nat) (OA : Option Addr) (on oc : Nat) (N : NetM) (RB : Option Addr) (pn pc : Nat) (IA : Option Addr) (jn jc : Nat) (regs ins : List (BitVec 64)) (w : World)

set_option maxHeartbeats 4000000 in
theorem packStep_any (h : NetC w i GA gn gc RA rn rc OA on oc N) (hr : Sl w RB pn (regs.map U)) (hi : Sl w IA jn (ins.map U)) (hpm : pn ≤ maxLen) (hjm : jn ≤ maxLen) :
    Calls Try.prog 41 #[netV i GA gn gc RA rn rc OA on oc, .slice RB pn pc, .slice IA jn jc] w fun e w' => ∃ vo vn, e = .returned (Pr3 vo vn (I (packE N regs.length ins.length))) ∧ TwoOwnU w w' vo vn (packV N regs ins) := by
  have hgl : N.gates.length = gn := h.gates.1
  have hrl : N.regs.length = rn := h.regs.1
  have hol : N.outs.length = on := h.outs.len
  have hpl := hr.len; have hjl := hi.len; have hin := h.ins
  obtain ⟨W, hW⟩ : ∃ W, W = w.alloc (.cells #[I i, .slice GA gn gc, .slice RA rn rc, .slice OA on oc] 26) := ⟨_, rfl⟩
  have hxW : Ext w W := by rw [hW]; exact (Ext.refl _).alloc _
  have hbox : NetBox W w.heap.size i GA gn gc RA rn rc OA on oc := by rw [hW]; exact NetBox.new w i GA gn gc RA rn rc OA on oc _
  have HN := Lib.hid (h.keep hxW.keeps); have HBox := Lib.hid hbox; have HW := Lib.hid hW; have HX := Lib.hid hxW
  have HR := Lib.hid (hr.keep hxW.keeps); have HI := Lib.hid (hi.keep hxW.keeps)
  clear h hr hi hW hxW hbox
  by_cases h0 : (orderV N).2 = 0
  · obtain ⟨ok, hc, l, hO, hV⟩ := orderV_ok h0
    have hgn : gn ≤ 200 := by have := ok.gl; omega
    have hlay := lay_good i GA gn gc RA rn rc OA on oc N w.heap.size W HBox.out HN.out l hV hgn
    have HLAY := Lib.hid hlay; have HOK := Lib.hid ok; have HO := Lib.hid hO
    by_cases hf : regs.length = N.regs.length ∧ (ins.length : Int) = N.ins
    · have hE : packE N regs.length ins.length = 0 := by unfold packE; rw [if_neg (by simp [h0]), if_neg (by simp [hf.1, hf.2])]
      have hQ : packV N regs ins = playW N regs ins := by unfold packV; rw [if_pos hE]
      have hl := play_len hO regs ins
      rw [hol, hrl] at hl
      rw [hE, hQ]
      obtain rfl : pn = rn := by omega
      obtain rfl : i = (jn : Int) := by omega
      have hjn : (jn : Int) = N.ins := by omega
      have HL := Lib.hid hl; have HJN := Lib.hid hjn
      clear hlay ok hO hV h0 hE hQ hl hf hc hgl hrl hol hpl hjl hin hjn
      obtain ⟨q0, q1, q2, q3⟩ := HBox.out
      go_enter Try.func41, Try.ntmps41
      go_wp2_with fail
      rw [← HW.out]
      refine HLAY.out.mono ?_; rintro e w1 ⟨bb, vb, LA, lc, rfl, hB, x1⟩
      have HB := Lib.hid hB; have X1 := Lib.hid x1
      obtain ⟨q0, q1, q2, q3⟩ := HBox.out.keep x1.keeps
      clear hB x1 HLAY
      go_wp2_with fail
      refine (playWord_any _ GA gn gc RA pn rc OA on oc N w.heap.size W w1 W.heap.size bb vb LA lc l _ RB pc IA jn jc regs ins X1.out (Nat.le_refl _) HBox.out HN.out HB.out HOK.out HO.out (HR.out.keep X1.out.keeps) (sl_block HR.out HB.out.vbase) HI.out HJN.out).mono ?_
      rintro e w2 ⟨vo, vn, v', rfl, ho, hn, hB2, ha⟩
      have hx2 : Ext W w2 := ha.ext X1.out HB.out.vbase HB.out.vbase
      have HO1 := Lib.hid ho; have HN1 := Lib.hid hn; have X2 := Lib.hid hx2
      clear ho hn hB2 ha hx2 q0 q1 q2 q3
      go_wp2
      refine bodyPost_ret (v := Pr3 vo vn (I 0)) (by simp [results, Try.results41, go_sem]) rfl ⟨_, _, rfl, ?_, ?_, HX.out.trans X2.out⟩
      · rw [HL.out.1]; exact own_base HO1.out (HX.out.trans X1.out).size
      · rw [HL.out.2]; exact own_base HN1.out (HX.out.trans X1.out).size
    · have hE : packE N regs.length ins.length = 1 := by unfold packE; rw [if_neg (by simp [h0]), if_pos (by by_cases h1 : regs.length = N.regs.length <;> simp_all)]
      have hQ : packV N regs ins = ([], []) := by unfold packV; rw [if_neg (by rw [hE]; decide)]
      rw [hE, hQ]
      have hcase : ((pn : Int) != (rn : Int)) = true ∨ ((pn : Int) != (rn : Int)) = false ∧ ((jn : Int) != i) = true := by
        by_cases h1 : pn = rn
        · refine .inr ⟨by simp [h1], ?_⟩
          simp only [bne_iff_ne, ne_eq]
          intro e; exact hf ⟨by omega, by omega⟩
        · left; simp only [bne_iff_ne, ne_eq]; omega
      clear hlay ok hO hV h0 hE hQ hf hc hgl hrl hol hpl hjl hin
      obtain ⟨q0, q1, q2, q3⟩ := HBox.out
      rcases hcase with g1 | ⟨g1, g2⟩
      all_goals
        go_enter Try.func41, Try.ntmps41
        go_wp2_with fail
        rw [← HW.out]
        refine HLAY.out.mono ?_; rintro e w1 ⟨bb, vb, LA, lc, rfl, hB, x1⟩
        have X1 := Lib.hid x1
        obtain ⟨q0, q1, q2, q3⟩ := HBox.out.keep x1.keeps
        clear hB x1 HLAY
        go_wp2
        exact bodyPost_ret (v := Pr3 (.slice none 0 0) (.slice none 0 0) (I 1)) (by simp [results, Try.results41, go_sem]) rfl ⟨_, _, rfl, World.ownsRow_nil _ _ _ _, World.ownsRow_nil _ _ _ _, HX.out.trans X1.out⟩
  · have hlay := lay_bad i GA gn gc RA rn rc OA on oc N w.heap.size W HBox.out HN.out h0
    have hE : packE N regs.length ins.length = (orderV N).2 := by unfold packE; rw [if_pos h0]
    have hQ : packV N regs ins = ([], []) := by unfold packV; rw [if_neg (by rw [hE]; exact h0)]
    rw [hE, hQ]
    have g : ((orderV N).2 != 0) = true := by simpa using h0
    generalize (orderV N).2 = E at *
    have HLAY := Lib.hid hlay
    clear hlay h0 hE hQ hgl hrl hol hpl hjl hin
    go_enter Try.func41, Try.ntmps41
    go_wp2_with fail
    rw [← HW.out]
    refine HLAY.out.mono ?_; rintro e w1 ⟨rfl, x1⟩
    have X1 := Lib.hid x1
    clear x1 HLAY
    go_wp2
    exact bodyPost_ret (v := Pr3 (.slice none 0 0) (.slice none 0 0) (I E)) (by simp [results, Try.results41, go_sem]) rfl ⟨_, _, rfl, World.ownsRow_nil _ _ _ _, World.ownsRow_nil _ _ _ _, HX.out.trans X1.out⟩
end
end Go.Proofs.Ytjagbnaacfhokaa
