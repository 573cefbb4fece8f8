/- Asked and Step; the reference's StepError. -/
import Derived.Test.YtjagbnaacfhokaaRc06
import Derived.Test.YtjagbnaacfhokaaRc08
import Derived.Test.YtjagbnaacfhokaaRc04
namespace Go.Proofs.Ytjagbnaacfhokaa
set_option linter.unusedVariables false
set_option linter.unusedSimpArgs false
open Go.RowKit

section
variable (i : Int) (GA : Option Addr) (gn gc : Nat) (RA : Option Addr) (rn rc : Nat) (OA : Option Addr) (on oc : Nat) (N : NetM) (RB : Option Addr) (pn pc : Nat) (IA : Option Addr) (jn jc : Nat) (regs ins : List Int) (w : World)

set_option maxHeartbeats 2000000 in
theorem asked_any (h : NetC w i GA gn gc RA rn rc OA on oc N) (hr : Sl w RB pn (regs.map I)) (hi : Sl w IA jn (ins.map I)) (hpm : pn ≤ maxLen) (hjm : jn ≤ maxLen) :
    Calls Try.prog 75 #[netV i GA gn gc RA rn rc OA on oc, .slice RB pn pc, .slice IA jn jc] w fun e w' => e = .returned (I (askedM N regs ins)) ∧ Ext w w' := by
  have hrl : N.regs.length = rn := h.regs.1
  have hrm : rn ≤ maxLen := Nat.le_trans h.rl.1 h.rl.2
  have hpl := hr.len; have hjl := hi.len; have hin := h.ins
  generalize hM : askedM N regs ins = M
  unfold askedM at hM
  rw [hrl, hpl, hjl, ← hin] at hM
  obtain ⟨W, hW⟩ : ∃ W, W = w.alloc (.cells #[I i, .slice GA gn gc, .slice RA rn rc, .slice OA on oc] 26) := ⟨_, rfl⟩
  have hxW : Ext w W := by rw [hW]; exact (Ext.refl _).alloc _
  have hbox : NetBox W w.heap.size i GA gn gc RA rn rc OA on oc := by rw [hW]; exact NetBox.new w i GA gn gc RA rn rc OA on oc _
  have HN := Lib.hid (h.keep hxW.keeps); have HBox := Lib.hid hbox; have HW := Lib.hid hW; have HX := Lib.hid hxW
  have HR := Lib.hid (hr.keep hxW.keeps); have HI := Lib.hid (hi.keep hxW.keeps)
  have HPM := Lib.hid hpm; have HJM := Lib.hid hjm
  unfold maxLen at hrm hpm hjm
  clear h hr hi hW hxW hbox hrl hpl hjl hin
  by_cases hc : checkN N = 0
  · rw [if_neg (by simp [hc])] at hM
    have HC := Lib.hid hc; clear hc
    by_cases h1 : pn = rn
    · subst h1
      by_cases h2 : (jn : Int) = i
      · subst h2
        rw [if_neg (by simp)] at hM
        cases hb : regs.any bad3
        · rw [hb] at hM
          have HCR : Hid (checkM regs = 0) := by unfold Hid; simp only [checkM, hb]; rfl
          have HM : Hid (checkM ins = M) := by unfold Hid; rw [← hM]; simp [checkM]
          clear hM hb
          go_enter Try.func75, Try.ntmps75
          go_wp2_with fail
          rw [← HW.out]
          refine (netCheck_any _ GA gn gc RA pn rc OA on oc N W HN.out).mono ?_; rintro e w1 ⟨rfl, x1⟩; rw [HC.out]
          obtain ⟨q0, q1, q2, q3⟩ := HBox.out.keep x1.keeps
          have X1 := Lib.hid x1; clear x1
          go_wp2_with fail
          refine (ternCheck_any RB pn pc regs w1 (HR.out.keep X1.out.keeps) HPM.out).mono ?_; rintro e w2 ⟨rfl, rfl⟩; rw [HCR.out]
          go_wp2_with fail
          refine (ternCheck_any IA jn jc ins w1 (HI.out.keep X1.out.keeps) HJM.out).mono ?_; rintro e w2 ⟨rfl, rfl⟩; rw [HM.out]
          go_wp2
          go_ret
          exact ⟨rfl, HX.out.trans X1.out⟩
        · rw [hb] at hM
          have HCR : Hid (checkM regs = 3) := by unfold Hid; simp only [checkM, hb]; rfl
          have HM : Hid (3 = M) := by unfold Hid; rw [← hM]; rfl
          clear hM hb
          go_enter Try.func75, Try.ntmps75
          go_wp2_with fail
          rw [← HW.out]
          refine (netCheck_any _ GA gn gc RA pn rc OA on oc N W HN.out).mono ?_; rintro e w1 ⟨rfl, x1⟩; rw [HC.out]
          obtain ⟨q0, q1, q2, q3⟩ := HBox.out.keep x1.keeps
          have X1 := Lib.hid x1; clear x1
          go_wp2_with fail
          refine (ternCheck_any RB pn pc regs w1 (HR.out.keep X1.out.keeps) HPM.out).mono ?_; rintro e w2 ⟨rfl, rfl⟩; rw [HCR.out]
          go_wp2
          go_ret
          exact ⟨ret_int HM.out, HX.out.trans X1.out⟩
      · rw [if_pos (.inr h2)] at hM
        have HM := Lib.hid hM; clear hM
        have hb : (((jn : Nat) : Int) != i) = true := by simpa using h2
        go_enter Try.func75, Try.ntmps75
        go_wp2_with fail
        rw [← HW.out]
        refine (netCheck_any _ GA gn gc RA pn rc OA on oc N W HN.out).mono ?_; rintro e w1 ⟨rfl, x1⟩; rw [HC.out]
        obtain ⟨q0, q1, q2, q3⟩ := HBox.out.keep x1.keeps
        go_wp2
        go_ret
        exact ⟨ret_int HM.out, HX.out.trans x1⟩
    · rw [if_pos (.inl h1)] at hM
      have HM := Lib.hid hM; clear hM
      have hb : ((pn : Int) != (rn : Int)) = true := by simp; omega
      go_enter Try.func75, Try.ntmps75
      go_wp2_with fail
      rw [← HW.out]
      refine (netCheck_any _ GA gn gc RA rn rc OA on oc N W HN.out).mono ?_; rintro e w1 ⟨rfl, x1⟩; rw [HC.out]
      obtain ⟨q0, q1, q2, q3⟩ := HBox.out.keep x1.keeps
      go_wp2
      go_ret
      exact ⟨ret_int HM.out, HX.out.trans x1⟩
  · have g : (checkN N != 0) = true := by simpa using hc
    rw [if_pos hc] at hM
    have HM := Lib.hid hM; clear hM hc
    go_enter Try.func75, Try.ntmps75
    go_wp2_with fail
    rw [← HW.out]
    refine (netCheck_any _ GA gn gc RA rn rc OA on oc N W HN.out).mono ?_; rintro e w1 ⟨rfl, x1⟩
    go_wp2
    go_ret
    exact ⟨ret_int HM.out, HX.out.trans x1⟩

set_option maxHeartbeats 2000000 in
theorem evalStep_any (h : NetC w i GA gn gc RA rn rc OA on oc N) (hr : Sl w RB pn (regs.map I)) (hi : Sl w IA jn (ins.map I)) (hpm : pn ≤ maxLen) (hjm : jn ≤ maxLen) :
    Calls Try.prog 30 #[netV i GA gn gc RA rn rc OA on oc, .slice RB pn pc, .slice IA jn jc] w fun e w' => ∃ v, e = .returned (Pr v (I (stepV N regs ins).2)) ∧ w'.ownsRow w.heap.size 3 1 v (stepV N regs ins).1.length ((stepV N regs ins).1.map I) ∧ Ext w w' := by
  generalize hM : stepV N regs ins = M
  unfold stepV at hM
  obtain ⟨W, hW⟩ : ∃ W, W = w.alloc (.cells #[I i, .slice GA gn gc, .slice RA rn rc, .slice OA on oc] 26) := ⟨_, rfl⟩
  have hxW : Ext w W := by rw [hW]; exact (Ext.refl _).alloc _
  have hbox : NetBox W w.heap.size i GA gn gc RA rn rc OA on oc := by rw [hW]; exact NetBox.new w i GA gn gc RA rn rc OA on oc _
  have hgl : N.gates.length = gn := h.gates.1
  have HN := Lib.hid (h.keep hxW.keeps); have HBox := Lib.hid hbox; have HW := Lib.hid hW; have HX := Lib.hid hxW
  have HR := Lib.hid (hr.keep hxW.keeps); have HI := Lib.hid (hi.keep hxW.keeps)
  clear h hr hi hW hxW hbox
  by_cases h0 : askedM N regs ins = 0
  · rw [if_neg (by simp [h0])] at hM
    have HAK := Lib.hid (askedM_ok h0)
    have H0 := Lib.hid h0; clear h0
    subst hM
    have hsl : (settledM N.gates regs ins).length = gn := by rw [settled_len, hgl]
    have HSL := Lib.hid hsl; clear hsl
    go_enter Try.func30, Try.ntmps30
    go_wp2_with fail
    rw [← HW.out]
    refine (asked_any i GA gn gc RA rn rc OA on oc N RB pn pc IA jn jc regs ins W HN.out HR.out HI.out hpm hjm).mono ?_; rintro e w1 ⟨rfl, x1⟩; rw [H0.out]
    obtain ⟨q0, q1, q2, q3⟩ := HBox.out.keep x1.keeps
    have X1 := Lib.hid x1; clear x1
    go_wp2_with fail
    refine (settle_any i GA gn gc RA rn rc OA on oc N RB pn pc IA jn jc regs ins w1 (HN.out.keep X1.out.keeps) (HR.out.keep X1.out.keeps) (HI.out.keep X1.out.keeps) HAK.out).mono ?_; rintro e w2 ⟨v, rfl, hown, x2⟩
    have HO := Lib.hid hown; clear hown q0 q1 q2 q3
    go_wp2
    go_ret2
    exact ⟨_, rfl, by rw [HSL.out]; exact own_base HO.out (HX.out.trans X1.out).size, (HX.out.trans X1.out).trans x2⟩
  · rw [if_pos h0] at hM
    have g : (askedM N regs ins != 0) = true := by simpa using h0
    have HM := Lib.hid hM; clear hM h0
    go_enter Try.func30, Try.ntmps30
    go_wp2_with fail
    rw [← HW.out]
    refine (asked_any i GA gn gc RA rn rc OA on oc N RB pn pc IA jn jc regs ins W HN.out HR.out HI.out hpm hjm).mono ?_; rintro e w1 ⟨rfl, x1⟩
    go_wp2
    go_ret2
    exact ⟨.slice none 0 0, by rw [← HM.out]; rfl, by rw [← HM.out]; exact World.ownsRow_nil _ _ _ _, HX.out.trans x1⟩

/-- StepError: the same. -/
theorem stepError_eq : (if checkN N ≠ 0 then checkN N else if regs.length ≠ N.regs.length ∨ (ins.length : Int) ≠ N.ins then 1 else if !valuesM regs || !valuesM ins then 3 else 0) = askedM N regs ins := by
  unfold askedM
  rw [valuesM_eq, valuesM_eq]
  cases regs.any bad3 <;> cases ins.any bad3 <;> simp
set_option maxHeartbeats 2000000 in
theorem stepError_any (h : NetC w i GA gn gc RA rn rc OA on oc N) (hr : Sl w RB pn (regs.map I)) (hi : Sl w IA jn (ins.map I)) (hpm : pn ≤ maxLen) (hjm : jn ≤ maxLen) (hlo : -9223372036854775808 ≤ i) :
    Calls Try.prog 68 #[netV i GA gn gc RA rn rc OA on oc, .slice RB pn pc, .slice IA jn jc] w fun e w' => e = .returned (I (askedM N regs ins)) ∧ Ext w w' := by
  have hrl : N.regs.length = rn := h.regs.1
  have hrm : rn ≤ maxLen := Nat.le_trans h.rl.1 h.rl.2
  have hpl := hr.len; have hjl := hi.len; have hin := h.ins
  generalize hM : askedM N regs ins = M
  rw [← stepError_eq] at hM
  rw [hrl, hpl, hjl, ← hin] at hM
  obtain ⟨W, hW⟩ : ∃ W, W = w.alloc (.cells #[I i, .slice GA gn gc, .slice RA rn rc, .slice OA on oc] 26) := ⟨_, rfl⟩
  have hxW : Ext w W := by rw [hW]; exact (Ext.refl _).alloc _
  have hbox : NetBox W w.heap.size i GA gn gc RA rn rc OA on oc := by rw [hW]; exact NetBox.new w i GA gn gc RA rn rc OA on oc _
  have HN := Lib.hid (h.keep hxW.keeps); have HBox := Lib.hid hbox; have HW := Lib.hid hW; have HX := Lib.hid hxW
  have HR := Lib.hid (hr.keep hxW.keeps); have HI := Lib.hid (hi.keep hxW.keeps)
  have HPM := Lib.hid hpm; have HJM := Lib.hid hjm; have HLO := Lib.hid hlo
  unfold maxLen at hrm hpm hjm
  clear h hr hi hW hxW hbox hrl hpl hjl hin hlo
  by_cases hc : checkN N = 0
  · rw [if_neg (by simp [hc])] at hM
    have HC := Lib.hid hc; clear hc
    by_cases h1 : pn = rn
    · subst h1
      by_cases h2 : (jn : Int) = i
      · subst h2
        rw [if_neg (by simp)] at hM
        generalize hb : valuesM regs = b at hM
        generalize hd : valuesM ins = d at hM
        have HB := Lib.hid hb; have HD := Lib.hid hd; have HM := Lib.hid hM
        clear hb hd hM
        cases b
        · go_enter Try.func68, Try.ntmps68
          go_wp2_with fail
          rw [← HW.out]
          refine (rnet_any _ GA gn gc RA pn rc OA on oc N W HN.out HLO.out).mono ?_; rintro e w1 ⟨rfl, x1⟩; rw [HC.out]
          obtain ⟨q0, q1, q2, q3⟩ := HBox.out.keep x1.keeps
          have X1 := Lib.hid x1; clear x1
          go_wp2_with fail
          refine (values_any RB pn pc regs w1 (HR.out.keep X1.out.keeps) HPM.out).mono ?_; rintro e w2 ⟨rfl, rfl⟩; rw [HB.out]
          go_wp2
          go_ret
          exact ⟨ret_int (by rw [← HM.out]; rfl), HX.out.trans X1.out⟩
        · cases d
          all_goals
            go_enter Try.func68, Try.ntmps68
            go_wp2_with fail
            rw [← HW.out]
            refine (rnet_any _ GA gn gc RA pn rc OA on oc N W HN.out HLO.out).mono ?_; rintro e w1 ⟨rfl, x1⟩; rw [HC.out]
            obtain ⟨q0, q1, q2, q3⟩ := HBox.out.keep x1.keeps
            have X1 := Lib.hid x1; clear x1
            go_wp2_with fail
            refine (values_any RB pn pc regs w1 (HR.out.keep X1.out.keeps) HPM.out).mono ?_; rintro e w2 ⟨rfl, rfl⟩; rw [HB.out]
            go_wp2_with fail
            refine (values_any IA jn jc ins w1 (HI.out.keep X1.out.keeps) HJM.out).mono ?_; rintro e w2 ⟨rfl, rfl⟩; rw [HD.out]
            go_wp2
            go_ret
            exact ⟨ret_int (by rw [← HM.out]; rfl), HX.out.trans X1.out⟩
      · rw [if_pos (.inr h2)] at hM
        have HM := Lib.hid hM; clear hM
        have hb : (((jn : Nat) : Int) != i) = true := by simpa using h2
        go_enter Try.func68, Try.ntmps68
        go_wp2_with fail
        rw [← HW.out]
        refine (rnet_any _ GA gn gc RA pn rc OA on oc N W HN.out HLO.out).mono ?_; rintro e w1 ⟨rfl, x1⟩; rw [HC.out]
        obtain ⟨q0, q1, q2, q3⟩ := HBox.out.keep x1.keeps
        go_wp2
        go_ret
        exact ⟨ret_int HM.out, HX.out.trans x1⟩
    · rw [if_pos (.inl h1)] at hM
      have HM := Lib.hid hM; clear hM
      have hb : ((pn : Int) != (rn : Int)) = true := by simp; omega
      go_enter Try.func68, Try.ntmps68
      go_wp2_with fail
      rw [← HW.out]
      refine (rnet_any _ GA gn gc RA rn rc OA on oc N W HN.out HLO.out).mono ?_; rintro e w1 ⟨rfl, x1⟩; rw [HC.out]
      obtain ⟨q0, q1, q2, q3⟩ := HBox.out.keep x1.keeps
      go_wp2
      go_ret
      exact ⟨ret_int HM.out, HX.out.trans x1⟩
  · have g : (checkN N != 0) = true := by simpa using hc
    rw [if_pos hc] at hM
    have HM := Lib.hid hM; clear hM hc
    go_enter Try.func68, Try.ntmps68
    go_wp2_with fail
    rw [← HW.out]
    refine (rnet_any _ GA gn gc RA rn rc OA on oc N W HN.out HLO.out).mono ?_; rintro e w1 ⟨rfl, x1⟩
    go_wp2
    go_ret
    exact ⟨ret_int HM.out, HX.out.trans x1⟩
end
end Go.Proofs.Ytjagbnaacfhokaa
/- The reference's worth of a gate. -/
namespace Go.Proofs.Ytjagbnaacfhokaa
set_option linter.unusedVariables false
set_option linter.unusedSimpArgs false
open Go.RowKit

set_option maxHeartbeats 2000000 in
theorem worth_any (AA : Option Addr) (an ac : Nat) (RA : Option Addr) (rn rc : Nat) (IA : Option Addr) (jn jc : Nat) (VA : Option Addr) (vn vc : Nat) (regs ins v : List Int) (g : GateM) (w : World)
    (ha : Sl w AA an (g.args.map I)) (hr : Sl w RA rn (regs.map I)) (hi : Sl w IA jn (ins.map I)) (hv : Sl w VA vn (v.map I)) (hg : GateR vn rn jn g) (hvg : goodL v) :
    Calls Try.prog 118 #[gateV g.kind g.num AA an ac, .slice RA rn rc, .slice IA jn jc, .slice VA vn vc] w fun e w' => e = .returned (I (worthM regs ins v g)) ∧ Ext w w' := by
  obtain ⟨kd, nm, args⟩ := g
  simp only at ha ⊢
  generalize hM : worthM regs ins v ⟨kd, nm, args⟩ = M
  unfold worthM at hM
  simp only at hM
  have hkd := hg.kind; simp only at hkd
  have hinp := hg.inp; have hreg := hg.reg; have hone := hg.one; have hargs := hg.args; have hal := hg.al
  simp only at hinp hreg hone hargs hal
  have han := ha.len
  obtain ⟨W2, hW2⟩ : ∃ W2, W2 = w.alloc (.cells #[I kd, I nm, .slice AA an ac] 34) := ⟨_, rfl⟩
  obtain ⟨y0, y1, y2, hx⟩ := box3 w _ _ _ _ hW2
  have HW := Lib.hid hW2; have HX := Lib.hid hx
  have HR := Lib.hid (hr.keep hx.keeps); have HI := Lib.hid (hi.keep hx.keeps); have HA := Lib.hid (ha.keep hx.keeps); have HV := Lib.hid (hv.keep hx.keeps)
  have HG := Lib.hid hvg; have HAR := Lib.hid hargs; have HNM := Lib.hid hM; have HO := Lib.hid hone; have HIN := Lib.hid hinp; have HRE := Lib.hid hreg; have HKD := Lib.hid hkd
  clear hW2 hx hr hi ha hv hvg hg hargs hM hone hinp hreg hkd
  go_enter Try.func118, Try.ntmps118
  go_wp2_with fail
  rw [← HW.out]
  go_loopw [9, 10] (fun s i wr => ∃ (k : Nat), k ≤ an ∧ i = .int .i64 k ∧ Ext W2 wr ∧ wr.ownsRow W2.heap.size 3 1 s k (((args.take k).map (valI v)).map I)) (fun _ i _ => an - (intOf i).toNat)
  case atStart => exact ⟨0, Nat.zero_le _, rfl, Ext.refl _, World.ownsRow_nil _ _ _ _⟩
  case round =>
    obtain ⟨k, hk, rfl, hext, hown⟩ := hrel
    have z0 := hext.keeps _ _ y0; have z1 := hext.keeps _ _ y1; have z2 := hext.keeps _ _ y2
    by_cases hlt : k < an
    · obtain ⟨b, off, x, rfl, hc0, hx⟩ := HA.out.at_ hlt
      have hc := hext.keeps _ _ hc0
      obtain ⟨ha0, ha1⟩ := HAR.out x (List.mem_of_getElem? hx)
      obtain ⟨j, rfl⟩ : ∃ j : Nat, x = j := ⟨x.toNat, by omega⟩
      have hj : j < vn := by omega
      obtain ⟨b', off', y, rfl, hd0, hy⟩ := HV.out.at_ hj
      have hd := hext.keeps _ _ hd0
      have hn := take_next (valI v) args hx
      rw [valI_at hy] at hn
      have HN := Lib.hid hn; have HOwn := Lib.hid hown
      clear hn hown hx hy hc0 hd0 ha0 ha1
      go_wp2_with (at_builtin; refine wpList_push rfl (.tmp 18) (.tmp 27) 24 3 rfl tab_int' Try.underlying24 rfl (by omega) W2 wr hext _ k _ rfl HOwn.out [I y] rfl rfl rfl (by simp [Value.oneCell']) (by unfold maxLen; omega) (by omega) ?_; intro v' w2 hown2 hx3 _)
      go_roundw
      case rel => exact ⟨k + 1, by omega, by go_num, hx3, by rw [HN.out]; simpa using hown2⟩
      case measure => simp [intOf]; omega
    · have hkn : k = an := by omega
      subst hkn
      have ht : args.take k = args := List.take_of_length_le (by omega)
      rw [ht] at hown
      obtain ⟨S, sc, rfl, hs1, hs2, hsl⟩ := own_sl hown
      have HS := Lib.hid hsl
      have HX2 := Lib.hid (HX.out.trans hext)
      have HE := Lib.hid hext
      clear ht hown hsl hk hlt hext
      have hk : kd = 0 ∨ kd = 1 ∨ kd = 2 ∨ kd = 3 ∨ kd = 4 ∨ kd = 5 ∨ kd = 6 := by have := HKD.out; omega
      rcases hk with rfl | rfl | rfl | rfl | rfl | rfl | rfl
      · go_wp2
        go_ret
        exact ⟨ret_int HNM.out, HX2.out⟩
      · go_wp2
        go_ret
        exact ⟨ret_int HNM.out, HX2.out⟩
      · obtain ⟨h0, h1⟩ := HIN.out rfl
        obtain ⟨j, rfl⟩ : ∃ j : Nat, nm = j := ⟨nm.toNat, by omega⟩
        have hj : j < jn := by omega
        obtain ⟨b, off, x, rfl, hc, hx⟩ := HI.out.at_ hj
        have hd := HE.out.keeps _ _ hc
        have HM : Hid (x = M) := by unfold Hid; rw [← HNM.out]; simp [valI, hx]
        clear hx h0 h1 hc
        go_wp2
        go_ret
        exact ⟨ret_int HM.out, HX2.out⟩
      · obtain ⟨h0, h1⟩ := HRE.out rfl
        obtain ⟨j, rfl⟩ : ∃ j : Nat, nm = j := ⟨nm.toNat, by omega⟩
        have hj : j < rn := by omega
        obtain ⟨b, off, x, rfl, hc, hx⟩ := HR.out.at_ hj
        have hd := HE.out.keeps _ _ hc
        have HM : Hid (x = M) := by unfold Hid; rw [← HNM.out]; simp [valI, hx]
        clear hx h0 h1 hc
        go_wp2
        go_ret
        exact ⟨ret_int HM.out, HX2.out⟩
      · go_wp2_with fail
        refine (refAll_any _ k sc _ wr HS.out (by unfold maxLen; omega)).mono ?_; rintro e w' ⟨rfl, rfl⟩
        go_wp2
        go_ret
        exact ⟨ret_int (by rw [← HNM.out, allM_eq]; rfl), HX2.out⟩
      · go_wp2_with fail
        refine (refAny_any _ k sc _ wr HS.out (by unfold maxLen; omega)).mono ?_; rintro e w' ⟨rfl, rfl⟩
        go_wp2
        go_ret
        exact ⟨ret_int (by rw [← HNM.out, anyM_eq]; rfl), HX2.out⟩
      · obtain ⟨a, rfl⟩ : ∃ a, args = [a] := by
          have := HO.out rfl
          match args, this with
          | [a], _ => exact ⟨a, rfl⟩
        have hb : 0 ≤ valI v a ∧ valI v a ≤ 2 := by rcases valI_good HG.out a with e | e | e <;> rw [e] <;> decide
        have hk1 : 0 < k := by simp at han; omega
        obtain ⟨b, off, x, rfl, hc, hx⟩ := HS.out.at_ hk1
        have hx : x = valI v a := by simpa using hx.symm
        subst hx
        have hc0 : wr.cell? ⟨b, off, none⟩ = some (I (valI v a)) := hc
        have HB := Lib.hid hb; clear hb hc
        go_wp2_with fail
        refine (refNot_any (valI v a) wr HB.out.1 HB.out.2).mono ?_; rintro e w' ⟨rfl, rfl⟩
        go_wp2
        go_ret
        exact ⟨ret_int (by rw [← HNM.out, rnotM_eq _ HB.out.1 HB.out.2]; rfl), HX2.out⟩
end Go.Proofs.Ytjagbnaacfhokaa
