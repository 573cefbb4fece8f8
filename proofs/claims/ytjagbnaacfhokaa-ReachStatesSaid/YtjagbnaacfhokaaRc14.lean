/- Solves, by the program and by the reference; StepOf. -/
import Derived.Test.YtjagbnaacfhokaaRc10
namespace Go.Proofs.Ytjagbnaacfhokaa
set_option linter.unusedVariables false
set_option linter.unusedSimpArgs false
open Go.RowKit

section
variable (i : Int) (GA : Option Addr) (gn gc : Nat) (RA : Option Addr) (rn rc : Nat) (OA : Option Addr) (on oc : Nat) (N : NetM) (RB : Option Addr) (pn pc : Nat) (IA : Option Addr) (jn jc : Nat) (regs ins : List Int) (w : World)

set_option maxHeartbeats 2000000 in
theorem stepOf_any (h : NetC w i GA gn gc RA rn rc OA on oc N) (hr : Sl w RB pn (regs.map I)) (hi : Sl w IA jn (ins.map I)) (hpm : pn ≤ maxLen) (hjm : jn ≤ maxLen) (hlo : -9223372036854775808 ≤ i) :
    Calls Try.prog 31 #[netV i GA gn gc RA rn rc OA on oc, .slice RB pn pc, .slice IA jn jc] w fun e w' => ∃ v, e = .returned (Pr v (I (stepV N regs ins).2)) ∧ w'.ownsRow w.heap.size 3 1 v (stepV N regs ins).1.length ((stepV N regs ins).1.map I) ∧ Ext w w' := by
  generalize hM : stepV N regs ins = M
  unfold stepV at hM
  obtain ⟨W, hW⟩ : ∃ W, W = w.alloc (.cells #[I i, .slice GA gn gc, .slice RA rn rc, .slice OA on oc] 26) := ⟨_, rfl⟩
  have hxW : Ext w W := by rw [hW]; exact (Ext.refl _).alloc _
  have hbox : NetBox W w.heap.size i GA gn gc RA rn rc OA on oc := by rw [hW]; exact NetBox.new w i GA gn gc RA rn rc OA on oc _
  have hgl : N.gates.length = gn := h.gates.1
  have HN := Lib.hid (h.keep hxW.keeps); have HBox := Lib.hid hbox; have HW := Lib.hid hW; have HX := Lib.hid hxW
  have HR := Lib.hid (hr.keep hxW.keeps); have HI := Lib.hid (hi.keep hxW.keeps)
  clear h hr hi hW hxW hbox
  by_cases h0 : askedM N regs ins = 0
  · rw [if_neg (by simp [h0])] at hM
    have HAK := Lib.hid (askedM_ok h0)
    have H0 := Lib.hid h0; clear h0
    subst hM
    have hsl : (settledM N.gates regs ins).length = gn := by rw [settled_len, hgl]
    have HSL := Lib.hid hsl; clear hsl
    go_enter Try.func31, Try.ntmps31
    go_wp2_with fail
    rw [← HW.out]
    refine (stepError_any i GA gn gc RA rn rc OA on oc N RB pn pc IA jn jc regs ins W HN.out HR.out HI.out hpm hjm hlo).mono ?_; rintro e w1 ⟨rfl, x1⟩; rw [H0.out]
    obtain ⟨q0, q1, q2, q3⟩ := HBox.out.keep x1.keeps
    have X1 := Lib.hid x1; clear x1
    go_wp2_with fail
    refine (settled_any i GA gn gc RA rn rc OA on oc N RB pn pc IA jn jc regs ins w1 (HN.out.keep X1.out.keeps) (HR.out.keep X1.out.keeps) (HI.out.keep X1.out.keeps) HAK.out).mono ?_; rintro e w2 ⟨v, rfl, hown, x2⟩
    have HO := Lib.hid hown; clear hown q0 q1 q2 q3
    go_wp2
    go_ret2
    exact ⟨_, rfl, by rw [HSL.out]; exact own_base HO.out (HX.out.trans X1.out).size, (HX.out.trans X1.out).trans x2⟩
  · rw [if_pos h0] at hM
    have g : (askedM N regs ins != 0) = true := by simpa using h0
    have HM := Lib.hid hM; clear hM h0
    go_enter Try.func31, Try.ntmps31
    go_wp2_with fail
    rw [← HW.out]
    refine (stepError_any i GA gn gc RA rn rc OA on oc N RB pn pc IA jn jc regs ins W HN.out HR.out HI.out hpm hjm hlo).mono ?_; rintro e w1 ⟨rfl, x1⟩
    go_wp2
    go_ret2
    exact ⟨.slice none 0 0, by rw [← HM.out]; rfl, by rw [← HM.out]; exact World.ownsRow_nil _ _ _ _, HX.out.trans x1⟩
end

abbrev okY (regs ins v : List Int) (y : GateM × Int) : Bool := decide (worthM regs ins v y.1 = y.2)
theorem drop_zip {α β : Type} {a : List α} {b : List β} {k : Nat} {x : α} {y : β} (h1 : a[k]? = some x) (h2 : b[k]? = some y) : (a.zip b).drop k = (x, y) :: (a.zip b).drop (k + 1) := by
  have ha : k < a.length := (List.getElem?_eq_some_iff.1 h1).1
  have hb : k < b.length := (List.getElem?_eq_some_iff.1 h2).1
  have hl : k < (a.zip b).length := by simp; omega
  rw [List.drop_eq_getElem_cons hl]
  congr 1
  rw [List.getElem_zip]
  rw [List.getElem?_eq_getElem ha] at h1
  rw [List.getElem?_eq_getElem hb] at h2
  injection h1 with h1; injection h2 with h2
  rw [h1, h2]
theorem solves_dec {gs : List GateM} {regs ins v : List Int} (hl : v.length = gs.length) : decide (nextV gs regs ins v = v) = (gs.zip v).all (okY regs ins v) := by
  rw [Bool.eq_iff_iff, decide_eq_true_iff, nextV_from]
  simp [hl]

set_option maxRecDepth 100000 in
set_option maxHeartbeats 4000000 in
theorem rsolves_any (i : Int) (GA : Option Addr) (gc : Nat) (RA : Option Addr) (rn rc : Nat) (OA : Option Addr) (on oc : Nat) (N : NetM) (RB : Option Addr) (pn pc : Nat) (IA : Option Addr) (jn jc : Nat) (VA : Option Addr) (vn vc : Nat) (regs ins v : List Int) (w : World)
    (h : NetC w i GA vn gc RA rn rc OA on oc N) (hr : Sl w RB pn (regs.map I)) (hi : Sl w IA jn (ins.map I)) (hv : Sl w VA vn (v.map I)) (ak : AskedOK N regs ins) (hvg : goodL v) :
    Calls Try.prog 82 #[netV i GA vn gc RA rn rc OA on oc, .slice RB pn pc, .slice IA jn jc, .slice VA vn vc] w fun e w' => e = .returned (.bool (decide (nextV N.gates regs ins v = v))) ∧ Ext w w' := by
  have hgl : N.gates.length = vn := h.gates.1
  have hg200 : vn ≤ 200 := by have := ak.net.gl; omega
  have hil := ak.il; have hrl := ak.rl
  have hjn : jn = N.ins.toNat := by have := hi.len; omega
  have hpn : pn = N.regs.length := by have := hr.len; omega
  have hgr : ∀ g ∈ N.gates, GateR vn pn jn g := fun g hg => by have := ak.net.gate hg; rw [hgl, ← hjn, ← hpn] at this; exact this
  rw [solves_dec (by rw [hgl, hv.len])]
  generalize hM : (N.gates.zip v).all (okY regs ins v) = M
  obtain ⟨W, hW⟩ : ∃ W, W = w.alloc (.cells #[I i, .slice GA vn gc, .slice RA rn rc, .slice OA on oc] 26) := ⟨_, rfl⟩
  have hxW : Ext w W := by rw [hW]; exact (Ext.refl _).alloc _
  have hbox : NetBox W w.heap.size i GA vn gc RA rn rc OA on oc := by rw [hW]; exact NetBox.new w i GA vn gc RA rn rc OA on oc _
  have HN := Lib.hid (h.keep hxW.keeps); have HBox := Lib.hid hbox; have HW := Lib.hid hW; have HX := Lib.hid hxW
  have HR := Lib.hid (hr.keep hxW.keeps); have HI := Lib.hid (hi.keep hxW.keeps); have HV := Lib.hid (hv.keep hxW.keeps); have HGR := Lib.hid hgr; have HVG := Lib.hid hvg
  have HM := Lib.hid hM; have HZL : Hid ((N.gates.zip v).length = vn) := by unfold Hid; rw [List.length_zip, hgl, hv.len]; omega
  clear h hr hi hv ak hW hxW hbox hil hrl hjn hpn hgr hM hvg
  go_enter Try.func82, Try.ntmps82
  go_wp2_with fail
  rw [← HW.out]
  go_loopw [9] (fun j wr => ∃ k : Nat, k ≤ vn ∧ j = .int .i64 k ∧ Ext W wr ∧ ((N.gates.zip v).drop k).all (okY regs ins v) = M) (fun j _ => vn - (intOf j).toNat)
  case atStart => exact ⟨0, Nat.zero_le _, rfl, Ext.refl _, HM.out⟩
  case round =>
    obtain ⟨k, hk, rfl, hext, hall⟩ := hrel
    by_cases hlt : k < vn
    · obtain ⟨b, offg, A', m, c', gt, rfl, g0, g1, g2, hs, hmc, hcm, hd, hgk⟩ := HN.out.gates.next hlt
      obtain ⟨bv, ov, y, rfl, hcv, hvk⟩ := HV.out.at_ hlt
      have K0 := Lib.hid (hext.keeps _ _ g0); have K1 := Lib.hid (hext.keeps _ _ g1); have K2 := Lib.hid (hext.keeps _ _ g2); have CV := Lib.hid (hext.keeps _ _ hcv)
      have Q1 := Lib.hid ((HBox.out.keep hext.keeps).2.1)
      have hof : ∀ Q, Ext wr Q → Calls Try.prog 118 #[gateV gt.kind gt.num A' m c', .slice RB pn pc, .slice IA jn jc, .slice (some ⟨bv, ov, none⟩) vn vc] Q fun e w' => e = .returned (I (worthM regs ins v gt)) ∧ Ext Q w' := fun Q hQ =>
        worth_any A' m c' RB pn pc IA jn jc (some ⟨bv, ov, none⟩) vn vc regs ins v gt Q ((hs.keep hext.keeps).keep hQ.keeps) ((HR.out.keep hext.keeps).keep hQ.keeps) ((HI.out.keep hext.keeps).keep hQ.keeps) ((HV.out.keep hext.keeps).keep hQ.keeps) (HGR.out gt (List.mem_of_getElem? hgk)) HVG.out
      rw [drop_zip hgk hvk, List.all_cons] at hall
      generalize hX : worthM regs ins v gt = X at hof
      rw [show okY regs ins v (gt, y) = decide (X = y) from by rw [← hX]] at hall
      have HOF := Lib.hid hof; have HALL := Lib.hid hall; have HE := Lib.hid hext
      clear hof hall hext hX hs hmc hcm hd hgk hvk g0 g1 g2 hcv
      by_cases hxy : X = y
      · subst hxy
        go_wp2_with fail
        refine wp_flow3 14 0 [isV (.slice (some ⟨bv, ov, none⟩) vn vc), isV (.int .i64 k), isV (.pointer (some ⟨bv, ov + k, none⟩)), isV (.int .i64 X), isV (.pointer (some ⟨w.heap.size, 1, none⟩)), isV (.slice (some ⟨b, offg, none⟩) vn gc), isV (.int .i64 k), isV (.pointer (some ⟨b, offg + k * 3, none⟩)), isV (.agg #[I gt.kind, I gt.num, .slice A' m c']), isV (.slice RB pn pc), isV (.slice IA jn jc), isV (.slice (some ⟨bv, ov, none⟩) vn vc), isV (.int .i64 X), isV (.bool false)] (by kernel_rfl) rfl rfl (by kernel_rfl) (by kernel_rfl) ⟨isV_mono, isV_mono, isV_mono, isV_mono, isV_mono, isV_mono, isV_mono, isV_mono, isV_mono, isV_mono, isV_mono, isV_mono, isV_mono, isV_mono, trivial⟩ ?each ?rest
        case each =>
          refine .cons ?_ (.cons ?_ (.cons ?_ (.cons ?_ (.cons ?_ (.cons ?_ (.cons ?_ (.cons ?_ (.cons ?_ (.cons ?_ (.cons ?_ (.cons ?_ (.cons ?_ (.cons ?_ (.nil))))))))))))))
          · intro fa fw hx hs hb
            have s3 : fa.tmps[(3 : Nat)]? = some (.slice (some ⟨bv, ov, none⟩) vn vc) := (hb 3 (by kernel_rfl)).trans (by rfl)
            refine .inl ⟨wanted_free rfl, fun K hK => ?_⟩
            clear hs hb hx
            go_simp
            exact hK _ _ rfl (Ext.refl _)
          · intro fa fw hx hs hb
            have s9 : fa.tmps[(9 : Nat)]? = some (.int .i64 k) := (hb 9 (by kernel_rfl)).trans (by rfl)
            refine .inl ⟨wanted_free rfl, fun K hK => ?_⟩
            clear hs hb hx
            go_simp
            exact hK _ _ rfl (Ext.refl _)
          · intro fa fw hx hs hb
            obtain ⟨_, s16, rfl⟩ := hs 0 16 (by kernel_rfl) (by kernel_rfl)
            obtain ⟨_, s17, rfl⟩ := hs 1 17 (by kernel_rfl) (by kernel_rfl)
            refine .inl ⟨wanted_free rfl, fun K hK => ?_⟩
            clear hs hb hx
            go_simp
            exact hK _ _ rfl (Ext.refl _)
          · intro fa fw hx hs hb
            obtain ⟨_, s18, rfl⟩ := hs 2 18 (by kernel_rfl) (by kernel_rfl)
            have c0 := hx.keeps _ _ CV.out
            refine .inl ⟨wanted_free rfl, fun K hK => ?_⟩
            clear hs hb hx
            go_simp
            exact hK _ _ rfl (Ext.refl _)
          · intro fa fw hx hs hb
            have s4 : fa.tmps[(4 : Nat)]? = some (.pointer (some ⟨w.heap.size, 0, none⟩)) := (hb 4 (by kernel_rfl)).trans (by rfl)
            refine .inl ⟨wanted_free rfl, fun K hK => ?_⟩
            clear hs hb hx
            go_simp
            exact hK _ _ rfl (Ext.refl _)
          · intro fa fw hx hs hb
            obtain ⟨_, s20, rfl⟩ := hs 4 20 (by kernel_rfl) (by kernel_rfl)
            have c0 := hx.keeps _ _ Q1.out
            refine .inl ⟨wanted_free rfl, fun K hK => ?_⟩
            clear hs hb hx
            go_simp
            exact hK _ _ rfl (Ext.refl _)
          · intro fa fw hx hs hb
            have s9 : fa.tmps[(9 : Nat)]? = some (.int .i64 k) := (hb 9 (by kernel_rfl)).trans (by rfl)
            refine .inl ⟨wanted_free rfl, fun K hK => ?_⟩
            clear hs hb hx
            go_simp
            exact hK _ _ rfl (Ext.refl _)
          · intro fa fw hx hs hb
            obtain ⟨_, s21, rfl⟩ := hs 5 21 (by kernel_rfl) (by kernel_rfl)
            obtain ⟨_, s22, rfl⟩ := hs 6 22 (by kernel_rfl) (by kernel_rfl)
            refine .inl ⟨wanted_free rfl, fun K hK => ?_⟩
            clear hs hb hx
            go_simp
            exact hK _ _ rfl (Ext.refl _)
          · intro fa fw hx hs hb
            obtain ⟨_, s23, rfl⟩ := hs 7 23 (by kernel_rfl) (by kernel_rfl)
            have c0 := hx.keeps _ _ K0.out
            have c1 := hx.keeps _ _ K1.out
            have c2 := hx.keeps _ _ K2.out
            refine .inl ⟨wanted_free rfl, fun K hK => ?_⟩
            clear hs hb hx
            go_simp
            exact hK _ _ rfl (Ext.refl _)
          · intro fa fw hx hs hb
            have s1 : fa.tmps[(1 : Nat)]? = some (.slice RB pn pc) := (hb 1 (by kernel_rfl)).trans (by rfl)
            refine .inl ⟨wanted_free rfl, fun K hK => ?_⟩
            clear hs hb hx
            go_simp
            exact hK _ _ rfl (Ext.refl _)
          · intro fa fw hx hs hb
            have s2 : fa.tmps[(2 : Nat)]? = some (.slice IA jn jc) := (hb 2 (by kernel_rfl)).trans (by rfl)
            refine .inl ⟨wanted_free rfl, fun K hK => ?_⟩
            clear hs hb hx
            go_simp
            exact hK _ _ rfl (Ext.refl _)
          · intro fa fw hx hs hb
            have s3 : fa.tmps[(3 : Nat)]? = some (.slice (some ⟨bv, ov, none⟩) vn vc) := (hb 3 (by kernel_rfl)).trans (by rfl)
            refine .inl ⟨wanted_free rfl, fun K hK => ?_⟩
            clear hs hb hx
            go_simp
            exact hK _ _ rfl (Ext.refl _)
          · intro fa fw hx hs hb
            obtain ⟨_, s24, rfl⟩ := hs 8 24 (by kernel_rfl) (by kernel_rfl)
            obtain ⟨_, s25, rfl⟩ := hs 9 25 (by kernel_rfl) (by kernel_rfl)
            obtain ⟨_, s26, rfl⟩ := hs 10 26 (by kernel_rfl) (by kernel_rfl)
            obtain ⟨_, s27, rfl⟩ := hs 11 27 (by kernel_rfl) (by kernel_rfl)
            refine .inl ⟨wanted_free rfl, fun K hK => ?_⟩
            clear hs hb
            go_simp
            refine (HOF.out _ hx).mono ?_
            rintro e w' ⟨rfl, xq⟩
            exact hK _ _ rfl xq
          · intro fa fw hx hs hb
            obtain ⟨_, s19, rfl⟩ := hs 3 19 (by kernel_rfl) (by kernel_rfl)
            obtain ⟨_, s28, rfl⟩ := hs 12 28 (by kernel_rfl) (by kernel_rfl)
            refine .inl ⟨wanted_free rfl, fun K hK => ?_⟩
            clear hs hb hx
            go_simp
            exact hK _ _ rfl (Ext.refl _)
        case rest =>
          intro w2 hxw2
          rintro _ rfl
          rintro _ rfl
          rintro _ rfl
          rintro _ rfl
          rintro _ rfl
          rintro _ rfl
          rintro _ rfl
          rintro _ rfl
          rintro _ rfl
          rintro _ rfl
          rintro _ rfl
          rintro _ rfl
          rintro _ rfl
          rintro _ rfl
          simp only [putAll, List.take, Act.put, List.setIfInBounds_toArray, List.set_cons_zero, List.set_cons_succ]
          refine wpAny_done (by kernel_rfl) ?_ _
          go_wp2
          go_roundw
          case rel => exact ⟨k + 1, by omega, by go_num, HE.out.trans hxw2, by have := HALL.out; simpa using this⟩
          case measure => simp [intOf]; omega
      · have hne : (y != X) = true := by simpa using fun e => hxy e.symm
        have HXY := Lib.hid hxy; clear hxy
        generalize hY : y = Y at *
        go_wp2_with fail
        refine wp_flow3 14 0 [isV (.slice (some ⟨bv, ov, none⟩) vn vc), isV (.int .i64 k), isV (.pointer (some ⟨bv, ov + k, none⟩)), isV (.int .i64 Y), isV (.pointer (some ⟨w.heap.size, 1, none⟩)), isV (.slice (some ⟨b, offg, none⟩) vn gc), isV (.int .i64 k), isV (.pointer (some ⟨b, offg + k * 3, none⟩)), isV (.agg #[I gt.kind, I gt.num, .slice A' m c']), isV (.slice RB pn pc), isV (.slice IA jn jc), isV (.slice (some ⟨bv, ov, none⟩) vn vc), isV (.int .i64 X), isV (.bool true)] (by kernel_rfl) rfl rfl (by kernel_rfl) (by kernel_rfl) ⟨isV_mono, isV_mono, isV_mono, isV_mono, isV_mono, isV_mono, isV_mono, isV_mono, isV_mono, isV_mono, isV_mono, isV_mono, isV_mono, isV_mono, trivial⟩ ?each ?rest
        case each =>
          refine .cons ?_ (.cons ?_ (.cons ?_ (.cons ?_ (.cons ?_ (.cons ?_ (.cons ?_ (.cons ?_ (.cons ?_ (.cons ?_ (.cons ?_ (.cons ?_ (.cons ?_ (.cons ?_ (.nil))))))))))))))
          · intro fa fw hx hs hb
            have s3 : fa.tmps[(3 : Nat)]? = some (.slice (some ⟨bv, ov, none⟩) vn vc) := (hb 3 (by kernel_rfl)).trans (by rfl)
            refine .inl ⟨wanted_free rfl, fun K hK => ?_⟩
            clear hs hb hx
            go_simp
            exact hK _ _ rfl (Ext.refl _)
          · intro fa fw hx hs hb
            have s9 : fa.tmps[(9 : Nat)]? = some (.int .i64 k) := (hb 9 (by kernel_rfl)).trans (by rfl)
            refine .inl ⟨wanted_free rfl, fun K hK => ?_⟩
            clear hs hb hx
            go_simp
            exact hK _ _ rfl (Ext.refl _)
          · intro fa fw hx hs hb
            obtain ⟨_, s16, rfl⟩ := hs 0 16 (by kernel_rfl) (by kernel_rfl)
            obtain ⟨_, s17, rfl⟩ := hs 1 17 (by kernel_rfl) (by kernel_rfl)
            refine .inl ⟨wanted_free rfl, fun K hK => ?_⟩
            clear hs hb hx
            go_simp
            exact hK _ _ rfl (Ext.refl _)
          · intro fa fw hx hs hb
            obtain ⟨_, s18, rfl⟩ := hs 2 18 (by kernel_rfl) (by kernel_rfl)
            have c0 := hx.keeps _ _ CV.out
            refine .inl ⟨wanted_free rfl, fun K hK => ?_⟩
            clear hs hb hx
            go_simp
            exact hK _ _ rfl (Ext.refl _)
          · intro fa fw hx hs hb
            have s4 : fa.tmps[(4 : Nat)]? = some (.pointer (some ⟨w.heap.size, 0, none⟩)) := (hb 4 (by kernel_rfl)).trans (by rfl)
            refine .inl ⟨wanted_free rfl, fun K hK => ?_⟩
            clear hs hb hx
            go_simp
            exact hK _ _ rfl (Ext.refl _)
          · intro fa fw hx hs hb
            obtain ⟨_, s20, rfl⟩ := hs 4 20 (by kernel_rfl) (by kernel_rfl)
            have c0 := hx.keeps _ _ Q1.out
            refine .inl ⟨wanted_free rfl, fun K hK => ?_⟩
            clear hs hb hx
            go_simp
            exact hK _ _ rfl (Ext.refl _)
          · intro fa fw hx hs hb
            have s9 : fa.tmps[(9 : Nat)]? = some (.int .i64 k) := (hb 9 (by kernel_rfl)).trans (by rfl)
            refine .inl ⟨wanted_free rfl, fun K hK => ?_⟩
            clear hs hb hx
            go_simp
            exact hK _ _ rfl (Ext.refl _)
          · intro fa fw hx hs hb
            obtain ⟨_, s21, rfl⟩ := hs 5 21 (by kernel_rfl) (by kernel_rfl)
            obtain ⟨_, s22, rfl⟩ := hs 6 22 (by kernel_rfl) (by kernel_rfl)
            refine .inl ⟨wanted_free rfl, fun K hK => ?_⟩
            clear hs hb hx
            go_simp
            exact hK _ _ rfl (Ext.refl _)
          · intro fa fw hx hs hb
            obtain ⟨_, s23, rfl⟩ := hs 7 23 (by kernel_rfl) (by kernel_rfl)
            have c0 := hx.keeps _ _ K0.out
            have c1 := hx.keeps _ _ K1.out
            have c2 := hx.keeps _ _ K2.out
            refine .inl ⟨wanted_free rfl, fun K hK => ?_⟩
            clear hs hb hx
            go_simp
            exact hK _ _ rfl (Ext.refl _)
          · intro fa fw hx hs hb
            have s1 : fa.tmps[(1 : Nat)]? = some (.slice RB pn pc) := (hb 1 (by kernel_rfl)).trans (by rfl)
            refine .inl ⟨wanted_free rfl, fun K hK => ?_⟩
            clear hs hb hx
            go_simp
            exact hK _ _ rfl (Ext.refl _)
          · intro fa fw hx hs hb
            have s2 : fa.tmps[(2 : Nat)]? = some (.slice IA jn jc) := (hb 2 (by kernel_rfl)).trans (by rfl)
            refine .inl ⟨wanted_free rfl, fun K hK => ?_⟩
            clear hs hb hx
            go_simp
            exact hK _ _ rfl (Ext.refl _)
          · intro fa fw hx hs hb
            have s3 : fa.tmps[(3 : Nat)]? = some (.slice (some ⟨bv, ov, none⟩) vn vc) := (hb 3 (by kernel_rfl)).trans (by rfl)
            refine .inl ⟨wanted_free rfl, fun K hK => ?_⟩
            clear hs hb hx
            go_simp
            exact hK _ _ rfl (Ext.refl _)
          · intro fa fw hx hs hb
            obtain ⟨_, s24, rfl⟩ := hs 8 24 (by kernel_rfl) (by kernel_rfl)
            obtain ⟨_, s25, rfl⟩ := hs 9 25 (by kernel_rfl) (by kernel_rfl)
            obtain ⟨_, s26, rfl⟩ := hs 10 26 (by kernel_rfl) (by kernel_rfl)
            obtain ⟨_, s27, rfl⟩ := hs 11 27 (by kernel_rfl) (by kernel_rfl)
            refine .inl ⟨wanted_free rfl, fun K hK => ?_⟩
            clear hs hb
            go_simp
            refine (HOF.out _ hx).mono ?_
            rintro e w' ⟨rfl, xq⟩
            exact hK _ _ rfl xq
          · intro fa fw hx hs hb
            obtain ⟨_, s19, rfl⟩ := hs 3 19 (by kernel_rfl) (by kernel_rfl)
            obtain ⟨_, s28, rfl⟩ := hs 12 28 (by kernel_rfl) (by kernel_rfl)
            refine .inl ⟨wanted_free rfl, fun K hK => ?_⟩
            clear hs hb hx
            go_simp
            exact hK _ _ rfl (Ext.refl _)
        case rest =>
          intro w2 hxw2
          rintro _ rfl
          rintro _ rfl
          rintro _ rfl
          rintro _ rfl
          rintro _ rfl
          rintro _ rfl
          rintro _ rfl
          rintro _ rfl
          rintro _ rfl
          rintro _ rfl
          rintro _ rfl
          rintro _ rfl
          rintro _ rfl
          rintro _ rfl
          simp only [putAll, List.take, Act.put, List.setIfInBounds_toArray, List.set_cons_zero, List.set_cons_succ]
          refine wpAny_done (by kernel_rfl) ?_ _
          go_wp2
          go_ret
          exact ⟨ret_bool (by rw [← HALL.out]; simp [HXY.out]), HX.out.trans (HE.out.trans hxw2)⟩
    · have hkn : k = vn := by omega
      subst hkn
      rw [List.drop_eq_nil_of_le (by rw [HZL.out]; omega)] at hall
      have HALL := Lib.hid hall; have HE := Lib.hid hext
      clear hall hext hlt hk
      go_wp2
      go_ret
      exact ⟨ret_bool (by rw [← HALL.out]; rfl), HX.out.trans HE.out⟩

set_option maxRecDepth 100000 in
set_option maxHeartbeats 4000000 in
theorem evalSolves_any (i : Int) (GA : Option Addr) (gn gc : Nat) (RA : Option Addr) (rn rc : Nat) (OA : Option Addr) (on oc : Nat) (N : NetM) (RB : Option Addr) (pn pc : Nat) (IA : Option Addr) (jn jc : Nat) (VA : Option Addr) (vn vc : Nat) (regs ins v : List Int) (w : World)
    (h : NetC w i GA gn gc RA rn rc OA on oc N) (hr : Sl w RB pn (regs.map I)) (hi : Sl w IA jn (ins.map I)) (hv : Sl w VA vn (v.map I)) (hpm : pn ≤ maxLen) (hjm : jn ≤ maxLen) (hvm : vn ≤ maxLen) :
    Calls Try.prog 34 #[netV i GA gn gc RA rn rc OA on oc, .slice RB pn pc, .slice IA jn jc, .slice VA vn vc] w fun e w' => e = .returned (Pr (Bv (solvesV N regs ins v).1) (I (solvesV N regs ins v).2)) ∧ Ext w w' := by
  generalize hM : solvesV N regs ins v = M
  unfold solvesV at hM
  have hgl : N.gates.length = gn := h.gates.1
  have hvl := hv.len
  rw [hgl, hvl] at hM
  obtain ⟨W, hW⟩ : ∃ W, W = w.alloc (.cells #[I i, .slice GA gn gc, .slice RA rn rc, .slice OA on oc] 26) := ⟨_, rfl⟩
  have hxW : Ext w W := by rw [hW]; exact (Ext.refl _).alloc _
  have hbox : NetBox W w.heap.size i GA gn gc RA rn rc OA on oc := by rw [hW]; exact NetBox.new w i GA gn gc RA rn rc OA on oc _
  have HN := Lib.hid (h.keep hxW.keeps); have HBox := Lib.hid hbox; have HW := Lib.hid hW; have HX := Lib.hid hxW
  have hgm : gn ≤ maxLen := Nat.le_trans h.gl.1 h.gl.2
  have HR := Lib.hid (hr.keep hxW.keeps); have HI := Lib.hid (hi.keep hxW.keeps); have HV := Lib.hid (hv.keep hxW.keeps)
  have HPM := Lib.hid hpm; have HJM := Lib.hid hjm; have HVM := Lib.hid hvm
  have hrl2 := hr.len; have hil2 := hi.len
  unfold maxLen at hgm hvm hpm hjm
  clear h hr hi hv hW hxW hbox
  by_cases h0 : askedM N regs ins = 0
  · rw [if_neg (by simp [h0])] at hM
    have ak := askedM_ok h0
    have H0 := Lib.hid h0; clear h0
    by_cases h1 : vn = gn
    · subst h1
      rw [if_neg (by simp)] at hM
      cases hb : v.any bad3
      · rw [hb, if_neg (by simp)] at hM
        have HCR : Hid (checkM v = 0) := by unfold Hid; simp only [checkM, hb]; rfl
        have hvg := goodL_of hb
        have hg200 : vn ≤ 200 := by have := ak.net.gl; omega
        have hil := ak.il; have hrl := ak.rl
        have hjn : jn = N.ins.toNat := by omega
        have hpn : pn = N.regs.length := by omega
        have hgr : ∀ g ∈ N.gates, GateR vn pn jn g := fun g hg => by have := ak.net.gate hg; rw [hgl, ← hjn, ← hpn] at this; exact this
        rw [solves_dec (by rw [hgl, hvl])] at hM
        have HM := Lib.hid hM; have HGR := Lib.hid hgr; have HVG := Lib.hid hvg
        have HZL : Hid ((N.gates.zip v).length = vn) := by unfold Hid; rw [List.length_zip, hgl, hvl]; omega
        clear hM hb hil hrl hjn hpn hgr ak hvg
        go_enter Try.func34, Try.ntmps34
        go_wp2_with fail
        rw [← HW.out]
        refine (asked_any i GA vn gc RA rn rc OA on oc N RB pn pc IA jn jc regs ins W HN.out HR.out HI.out HPM.out HJM.out).mono ?_; rintro e w1 ⟨rfl, x1⟩; rw [H0.out]
        obtain ⟨q0, q1, q2, q3⟩ := HBox.out.keep x1.keeps
        have X1 := Lib.hid x1; clear x1
        go_wp2_with fail
        refine (ternCheck_any VA vn vc v w1 (HV.out.keep X1.out.keeps) HVM.out).mono ?_; rintro e w2 ⟨rfl, rfl⟩; rw [HCR.out]
        have z := fun o => (HBox.out.keep X1.out.keeps).keep (Keeps.alloc w1 o)
        have z1 := fun o => (z o).2.1
        clear z
        go_wp2_with fail
        clear z1 q0 q1 q2 q3
        obtain ⟨W5, hW5⟩ : ∃ W5, W5 = w1.alloc (.cells #[.slice RB pn pc, .slice IA jn jc] 87) := ⟨_, rfl⟩
        obtain ⟨p0, p1, x5⟩ := box2 w1 _ _ _ hW5
        have hx5 := X1.out.trans x5
        have P0' := Lib.hid p0; have P1' := Lib.hid p1; have X5 := Lib.hid hx5
        clear p0 p1 x5 hx5
        rw [← hW5]
        clear hW5
        generalize w1.heap.size = bh at *
        go_loopw [39] (fun j wr => ∃ k : Nat, k ≤ vn ∧ j = .int .i64 k ∧ Ext W5 wr ∧ (((N.gates.zip v).drop k).all (okY regs ins v), (0 : Int)) = M) (fun j _ => vn - (intOf j).toNat)
        case atStart => exact ⟨0, Nat.zero_le _, rfl, Ext.refl _, HM.out⟩
        case round =>
          obtain ⟨k, hk, rfl, hext, hall⟩ := hrel
          by_cases hlt : k < vn
          · obtain ⟨b, offg, A', m, c', gt, rfl, g0, g1, g2, hs, hmc, hcm, hd, hgk⟩ := HN.out.gates.next hlt
            obtain ⟨bv, ov, y, rfl, hcv, hvk⟩ := HV.out.at_ hlt
            have hx6 := X5.out.trans hext
            have c0 := hx6.keeps _ _ g0; have c1 := hx6.keeps _ _ g1; have c2 := hx6.keeps _ _ g2
            have hcv6 := hx6.keeps _ _ hcv
            obtain ⟨wg, hwg⟩ : ∃ wg, wg = wr.alloc (.cells #[I gt.kind, I gt.num, .slice A' m c'] 34) := ⟨_, rfl⟩
            obtain ⟨k0, k1, k2, xg⟩ := box3 wr _ _ _ _ hwg
            have K0 := Lib.hid k0; have K1 := Lib.hid k1; have K2 := Lib.hid k2; have CV := Lib.hid (xg.keeps _ _ hcv6)
            have P0 := Lib.hid (xg.keeps _ _ (hext.keeps _ _ P0'.out)); have P1 := Lib.hid (xg.keeps _ _ (hext.keeps _ _ P1'.out))
            have hof : ∀ Q, Ext wg Q → Calls Try.prog 80 #[handV RB pn pc IA jn jc, gateV gt.kind gt.num A' m c', .slice (some ⟨bv, ov, none⟩) vn vc] Q fun e w' => e = .returned (I (worthM regs ins v gt)) ∧ Ext Q w' := fun Q hQ =>
              have hk := ((hx6.trans xg).trans hQ).keeps
              handOf_any RB pn pc IA jn jc A' m c' (some ⟨bv, ov, none⟩) vn vc regs ins v gt Q (HR.out.keep hk) (HI.out.keep hk) (hs.keep hk) (HV.out.keep hk) (HGR.out gt (List.mem_of_getElem? hgk)) HVG.out
            rw [drop_zip hgk hvk, List.all_cons] at hall
            generalize hX : worthM regs ins v gt = X at hof
            rw [show okY regs ins v (gt, y) = decide (X = y) from by rw [← hX]] at hall
            have HOF := Lib.hid hof; have HALL := Lib.hid hall; have HE := Lib.hid hext; have HWG := Lib.hid hwg; have XG := Lib.hid xg
            clear hof hall hext hX hs hmc hcm hd hgk hvk g0 g1 g2 hcv hcv6 hx6 k0 k1 k2 hwg xg
            go_wp2_with fail
            rw [← HWG.out]
            clear HWG c0 c1 c2
            generalize wr.heap.size = bg at *
            by_cases hxy : X = y
            · subst hxy
              refine wp_flow3 9 0 [isV (.agg #[.slice RB pn pc, .slice IA jn jc]), isV (.agg #[I gt.kind, I gt.num, .slice A' m c']), isV (.slice (some ⟨bv, ov, none⟩) vn vc), isV (.int .i64 X), isV (.slice (some ⟨bv, ov, none⟩) vn vc), isV (.int .i64 k), isV (.pointer (some ⟨bv, ov + k, none⟩)), isV (.int .i64 X), isV (.bool false)] (by kernel_rfl) rfl rfl (by kernel_rfl) (by kernel_rfl) ⟨isV_mono, isV_mono, isV_mono, isV_mono, isV_mono, isV_mono, isV_mono, isV_mono, isV_mono, trivial⟩ ?each ?rest
              case each =>
                refine .cons ?_ (.cons ?_ (.cons ?_ (.cons ?_ (.cons ?_ (.cons ?_ (.cons ?_ (.cons ?_ (.cons ?_ (.nil)))))))))
                · intro fa fw hx hs hb
                  have s12 : fa.tmps[(12 : Nat)]? = some (.pointer (some ⟨bh, 0, none⟩)) := (hb 12 (by kernel_rfl)).trans (by rfl)
                  have c0 := hx.keeps _ _ P0.out
                  have c1 := hx.keeps _ _ P1.out
                  refine .inl ⟨wanted_free rfl, fun K hK => ?_⟩
                  clear hs hb hx
                  go_simp
                  exact hK _ _ rfl (Ext.refl _)
                · intro fa fw hx hs hb
                  have s14 : fa.tmps[(14 : Nat)]? = some (.pointer (some ⟨bg, 0, none⟩)) := (hb 14 (by kernel_rfl)).trans (by rfl)
                  have c0 := hx.keeps _ _ K0.out
                  have c1 := hx.keeps _ _ K1.out
                  have c2 := hx.keeps _ _ K2.out
                  refine .inl ⟨wanted_free rfl, fun K hK => ?_⟩
                  clear hs hb hx
                  go_simp
                  exact hK _ _ rfl (Ext.refl _)
                · intro fa fw hx hs hb
                  have s3 : fa.tmps[(3 : Nat)]? = some (.slice (some ⟨bv, ov, none⟩) vn vc) := (hb 3 (by kernel_rfl)).trans (by rfl)
                  refine .inl ⟨wanted_free rfl, fun K hK => ?_⟩
                  clear hs hb hx
                  go_simp
                  exact hK _ _ rfl (Ext.refl _)
                · intro fa fw hx hs hb
                  obtain ⟨_, s44, rfl⟩ := hs 0 44 (by kernel_rfl) (by kernel_rfl)
                  obtain ⟨_, s45, rfl⟩ := hs 1 45 (by kernel_rfl) (by kernel_rfl)
                  obtain ⟨_, s46, rfl⟩ := hs 2 46 (by kernel_rfl) (by kernel_rfl)
                  refine .inl ⟨wanted_free rfl, fun K hK => ?_⟩
                  clear hs hb
                  go_simp
                  refine (HOF.out _ hx).mono ?_
                  rintro e w' ⟨rfl, xq⟩
                  exact hK _ _ rfl xq
                · intro fa fw hx hs hb
                  have s3 : fa.tmps[(3 : Nat)]? = some (.slice (some ⟨bv, ov, none⟩) vn vc) := (hb 3 (by kernel_rfl)).trans (by rfl)
                  refine .inl ⟨wanted_free rfl, fun K hK => ?_⟩
                  clear hs hb hx
                  go_simp
                  exact hK _ _ rfl (Ext.refl _)
                · intro fa fw hx hs hb
                  have s13 : fa.tmps[(13 : Nat)]? = some (.int .i64 k) := (hb 13 (by kernel_rfl)).trans (by rfl)
                  refine .inl ⟨wanted_free rfl, fun K hK => ?_⟩
                  clear hs hb hx
                  go_simp
                  exact hK _ _ rfl (Ext.refl _)
                · intro fa fw hx hs hb
                  obtain ⟨_, s48, rfl⟩ := hs 4 48 (by kernel_rfl) (by kernel_rfl)
                  obtain ⟨_, s49, rfl⟩ := hs 5 49 (by kernel_rfl) (by kernel_rfl)
                  refine .inl ⟨wanted_free rfl, fun K hK => ?_⟩
                  clear hs hb hx
                  go_simp
                  exact hK _ _ rfl (Ext.refl _)
                · intro fa fw hx hs hb
                  obtain ⟨_, s50, rfl⟩ := hs 6 50 (by kernel_rfl) (by kernel_rfl)
                  have c0 := hx.keeps _ _ CV.out
                  refine .inl ⟨wanted_free rfl, fun K hK => ?_⟩
                  clear hs hb hx
                  go_simp
                  exact hK _ _ rfl (Ext.refl _)
                · intro fa fw hx hs hb
                  obtain ⟨_, s47, rfl⟩ := hs 3 47 (by kernel_rfl) (by kernel_rfl)
                  obtain ⟨_, s51, rfl⟩ := hs 7 51 (by kernel_rfl) (by kernel_rfl)
                  refine .inl ⟨wanted_free rfl, fun K hK => ?_⟩
                  clear hs hb hx
                  go_simp
                  exact hK _ _ rfl (Ext.refl _)
              case rest =>
                intro w2 hxw2
                rintro _ rfl
                rintro _ rfl
                rintro _ rfl
                rintro _ rfl
                rintro _ rfl
                rintro _ rfl
                rintro _ rfl
                rintro _ rfl
                rintro _ rfl
                simp only [putAll, List.take, Act.put, List.setIfInBounds_toArray, List.set_cons_zero, List.set_cons_succ]
                refine wpAny_done (by kernel_rfl) ?_ _
                go_wp2
                go_roundw
                case rel => exact ⟨k + 1, by omega, by go_num, (HE.out.trans XG.out).trans hxw2, by have := HALL.out; simpa using this⟩
                case measure => simp [intOf]; omega
            · have hne : (X != y) = true := by simpa using hxy
              have HXY := Lib.hid hxy; clear hxy
              generalize hY : y = Y at *
              refine wp_flow3 9 0 [isV (.agg #[.slice RB pn pc, .slice IA jn jc]), isV (.agg #[I gt.kind, I gt.num, .slice A' m c']), isV (.slice (some ⟨bv, ov, none⟩) vn vc), isV (.int .i64 X), isV (.slice (some ⟨bv, ov, none⟩) vn vc), isV (.int .i64 k), isV (.pointer (some ⟨bv, ov + k, none⟩)), isV (.int .i64 Y), isV (.bool true)] (by kernel_rfl) rfl rfl (by kernel_rfl) (by kernel_rfl) ⟨isV_mono, isV_mono, isV_mono, isV_mono, isV_mono, isV_mono, isV_mono, isV_mono, isV_mono, trivial⟩ ?each ?rest
              case each =>
                refine .cons ?_ (.cons ?_ (.cons ?_ (.cons ?_ (.cons ?_ (.cons ?_ (.cons ?_ (.cons ?_ (.cons ?_ (.nil)))))))))
                · intro fa fw hx hs hb
                  have s12 : fa.tmps[(12 : Nat)]? = some (.pointer (some ⟨bh, 0, none⟩)) := (hb 12 (by kernel_rfl)).trans (by rfl)
                  have c0 := hx.keeps _ _ P0.out
                  have c1 := hx.keeps _ _ P1.out
                  refine .inl ⟨wanted_free rfl, fun K hK => ?_⟩
                  clear hs hb hx
                  go_simp
                  exact hK _ _ rfl (Ext.refl _)
                · intro fa fw hx hs hb
                  have s14 : fa.tmps[(14 : Nat)]? = some (.pointer (some ⟨bg, 0, none⟩)) := (hb 14 (by kernel_rfl)).trans (by rfl)
                  have c0 := hx.keeps _ _ K0.out
                  have c1 := hx.keeps _ _ K1.out
                  have c2 := hx.keeps _ _ K2.out
                  refine .inl ⟨wanted_free rfl, fun K hK => ?_⟩
                  clear hs hb hx
                  go_simp
                  exact hK _ _ rfl (Ext.refl _)
                · intro fa fw hx hs hb
                  have s3 : fa.tmps[(3 : Nat)]? = some (.slice (some ⟨bv, ov, none⟩) vn vc) := (hb 3 (by kernel_rfl)).trans (by rfl)
                  refine .inl ⟨wanted_free rfl, fun K hK => ?_⟩
                  clear hs hb hx
                  go_simp
                  exact hK _ _ rfl (Ext.refl _)
                · intro fa fw hx hs hb
                  obtain ⟨_, s44, rfl⟩ := hs 0 44 (by kernel_rfl) (by kernel_rfl)
                  obtain ⟨_, s45, rfl⟩ := hs 1 45 (by kernel_rfl) (by kernel_rfl)
                  obtain ⟨_, s46, rfl⟩ := hs 2 46 (by kernel_rfl) (by kernel_rfl)
                  refine .inl ⟨wanted_free rfl, fun K hK => ?_⟩
                  clear hs hb
                  go_simp
                  refine (HOF.out _ hx).mono ?_
                  rintro e w' ⟨rfl, xq⟩
                  exact hK _ _ rfl xq
                · intro fa fw hx hs hb
                  have s3 : fa.tmps[(3 : Nat)]? = some (.slice (some ⟨bv, ov, none⟩) vn vc) := (hb 3 (by kernel_rfl)).trans (by rfl)
                  refine .inl ⟨wanted_free rfl, fun K hK => ?_⟩
                  clear hs hb hx
                  go_simp
                  exact hK _ _ rfl (Ext.refl _)
                · intro fa fw hx hs hb
                  have s13 : fa.tmps[(13 : Nat)]? = some (.int .i64 k) := (hb 13 (by kernel_rfl)).trans (by rfl)
                  refine .inl ⟨wanted_free rfl, fun K hK => ?_⟩
                  clear hs hb hx
                  go_simp
                  exact hK _ _ rfl (Ext.refl _)
                · intro fa fw hx hs hb
                  obtain ⟨_, s48, rfl⟩ := hs 4 48 (by kernel_rfl) (by kernel_rfl)
                  obtain ⟨_, s49, rfl⟩ := hs 5 49 (by kernel_rfl) (by kernel_rfl)
                  refine .inl ⟨wanted_free rfl, fun K hK => ?_⟩
                  clear hs hb hx
                  go_simp
                  exact hK _ _ rfl (Ext.refl _)
                · intro fa fw hx hs hb
                  obtain ⟨_, s50, rfl⟩ := hs 6 50 (by kernel_rfl) (by kernel_rfl)
                  have c0 := hx.keeps _ _ CV.out
                  refine .inl ⟨wanted_free rfl, fun K hK => ?_⟩
                  clear hs hb hx
                  go_simp
                  exact hK _ _ rfl (Ext.refl _)
                · intro fa fw hx hs hb
                  obtain ⟨_, s47, rfl⟩ := hs 3 47 (by kernel_rfl) (by kernel_rfl)
                  obtain ⟨_, s51, rfl⟩ := hs 7 51 (by kernel_rfl) (by kernel_rfl)
                  refine .inl ⟨wanted_free rfl, fun K hK => ?_⟩
                  clear hs hb hx
                  go_simp
                  exact hK _ _ rfl (Ext.refl _)
              case rest =>
                intro w2 hxw2
                rintro _ rfl
                rintro _ rfl
                rintro _ rfl
                rintro _ rfl
                rintro _ rfl
                rintro _ rfl
                rintro _ rfl
                rintro _ rfl
                rintro _ rfl
                simp only [putAll, List.take, Act.put, List.setIfInBounds_toArray, List.set_cons_zero, List.set_cons_succ]
                refine wpAny_done (by kernel_rfl) ?_ _
                go_wp2
                go_ret2
                exact ⟨by rw [← HALL.out]; simp [HXY.out], HX.out.trans (X5.out.trans ((HE.out.trans XG.out).trans hxw2))⟩
          · have hkn : k = vn := by omega
            subst hkn
            rw [List.drop_eq_nil_of_le (by rw [HZL.out]; omega)] at hall
            have HALL := Lib.hid hall; have HE := Lib.hid hext
            clear hall hext hlt hk
            go_wp2
            go_ret2
            exact ⟨by rw [← HALL.out]; rfl, HX.out.trans (X5.out.trans HE.out)⟩
      · rw [hb, if_pos rfl] at hM
        have HCR : Hid (checkM v = 3) := by unfold Hid; simp only [checkM, hb]; rfl
        have HM := Lib.hid hM
        clear hM hb ak
        go_enter Try.func34, Try.ntmps34
        go_wp2_with fail
        rw [← HW.out]
        refine (asked_any i GA vn gc RA rn rc OA on oc N RB pn pc IA jn jc regs ins W HN.out HR.out HI.out HPM.out HJM.out).mono ?_; rintro e w1 ⟨rfl, x1⟩; rw [H0.out]
        obtain ⟨q0, q1, q2, q3⟩ := HBox.out.keep x1.keeps
        have X1 := Lib.hid x1; clear x1
        go_wp2_with fail
        refine (ternCheck_any VA vn vc v w1 (HV.out.keep X1.out.keeps) HVM.out).mono ?_; rintro e w2 ⟨rfl, rfl⟩; rw [HCR.out]
        go_wp2
        go_ret2
        exact ⟨by rw [← HM.out]; rfl, HX.out.trans X1.out⟩
    · rw [if_pos h1] at hM
      have HM := Lib.hid hM
      have hb : ((vn : Int) != (gn : Int)) = true := by simp; omega
      clear hM ak
      go_enter Try.func34, Try.ntmps34
      go_wp2_with fail
      rw [← HW.out]
      refine (asked_any i GA gn gc RA rn rc OA on oc N RB pn pc IA jn jc regs ins W HN.out HR.out HI.out HPM.out HJM.out).mono ?_; rintro e w1 ⟨rfl, x1⟩; rw [H0.out]
      obtain ⟨q0, q1, q2, q3⟩ := HBox.out.keep x1.keeps
      go_wp2
      go_ret2
      exact ⟨by rw [← HM.out]; rfl, HX.out.trans x1⟩
  · rw [if_pos h0] at hM
    have g : (askedM N regs ins != 0) = true := by simpa using h0
    have HM := Lib.hid hM; clear hM h0
    go_enter Try.func34, Try.ntmps34
    go_wp2_with fail
    rw [← HW.out]
    refine (asked_any i GA gn gc RA rn rc OA on oc N RB pn pc IA jn jc regs ins W HN.out HR.out HI.out HPM.out HJM.out).mono ?_; rintro e w1 ⟨rfl, x1⟩
    go_wp2
    go_ret2
    exact ⟨by rw [← HM.out]; rfl, HX.out.trans x1⟩

set_option maxHeartbeats 4000000 in
theorem solvesOf_any (i : Int) (GA : Option Addr) (gn gc : Nat) (RA : Option Addr) (rn rc : Nat) (OA : Option Addr) (on oc : Nat) (N : NetM) (RB : Option Addr) (pn pc : Nat) (IA : Option Addr) (jn jc : Nat) (VA : Option Addr) (vn vc : Nat) (regs ins v : List Int) (w : World)
    (h : NetC w i GA gn gc RA rn rc OA on oc N) (hr : Sl w RB pn (regs.map I)) (hi : Sl w IA jn (ins.map I)) (hv : Sl w VA vn (v.map I)) (hpm : pn ≤ maxLen) (hjm : jn ≤ maxLen) (hvm : vn ≤ maxLen) (hlo : -9223372036854775808 ≤ i) :
    Calls Try.prog 35 #[netV i GA gn gc RA rn rc OA on oc, .slice RB pn pc, .slice IA jn jc, .slice VA vn vc] w fun e w' => e = .returned (Pr (Bv (solvesV N regs ins v).1) (I (solvesV N regs ins v).2)) ∧ Ext w w' := by
  generalize hM : solvesV N regs ins v = M
  unfold solvesV at hM
  have hgl : N.gates.length = gn := h.gates.1
  have hvl := hv.len
  rw [hgl, hvl] at hM
  obtain ⟨W, hW⟩ : ∃ W, W = w.alloc (.cells #[I i, .slice GA gn gc, .slice RA rn rc, .slice OA on oc] 26) := ⟨_, rfl⟩
  have hxW : Ext w W := by rw [hW]; exact (Ext.refl _).alloc _
  have hbox : NetBox W w.heap.size i GA gn gc RA rn rc OA on oc := by rw [hW]; exact NetBox.new w i GA gn gc RA rn rc OA on oc _
  have HN := Lib.hid (h.keep hxW.keeps); have HBox := Lib.hid hbox; have HW := Lib.hid hW; have HX := Lib.hid hxW
  have hgm : gn ≤ maxLen := Nat.le_trans h.gl.1 h.gl.2
  have HR := Lib.hid (hr.keep hxW.keeps); have HI := Lib.hid (hi.keep hxW.keeps); have HV := Lib.hid (hv.keep hxW.keeps)
  have HPM := Lib.hid hpm; have HJM := Lib.hid hjm; have HVM := Lib.hid hvm; have HLO := Lib.hid hlo
  unfold maxLen at hgm hvm
  clear h hr hi hv hW hxW hbox hpm hjm hlo
  by_cases h0 : askedM N regs ins = 0
  · rw [if_neg (by simp [h0])] at hM
    have HAK := Lib.hid (askedM_ok h0)
    have H0 := Lib.hid h0; clear h0
    by_cases h1 : vn = gn
    · subst h1
      rw [if_neg (by simp)] at hM
      cases hb : v.any bad3
      · rw [hb, if_neg (by simp)] at hM
        have HCR : Hid (valuesM v = true) := by unfold Hid; rw [valuesM_eq, hb]; rfl
        have HVG := Lib.hid (goodL_of hb)
        have HM := Lib.hid hM
        clear hM hb
        go_enter Try.func35, Try.ntmps35
        go_wp2_with fail
        rw [← HW.out]
        refine (stepError_any i GA vn gc RA rn rc OA on oc N RB pn pc IA jn jc regs ins W HN.out HR.out HI.out HPM.out HJM.out HLO.out).mono ?_; rintro e w1 ⟨rfl, x1⟩; rw [H0.out]
        obtain ⟨q0, q1, q2, q3⟩ := HBox.out.keep x1.keeps
        have X1 := Lib.hid x1; clear x1
        go_wp2_with fail
        refine (values_any VA vn vc v w1 (HV.out.keep X1.out.keeps) HVM.out).mono ?_; rintro e w2 ⟨rfl, rfl⟩; rw [HCR.out]
        go_wp2_with fail
        refine (rsolves_any i GA gc RA rn rc OA on oc N RB pn pc IA jn jc VA vn vc regs ins v w1 (HN.out.keep X1.out.keeps) (HR.out.keep X1.out.keeps) (HI.out.keep X1.out.keeps) (HV.out.keep X1.out.keeps) HAK.out HVG.out).mono ?_; rintro e w2 ⟨rfl, x2⟩
        clear q0 q1 q2 q3
        go_wp2
        go_ret2
        exact ⟨by rw [← HM.out]; rfl, HX.out.trans (X1.out.trans x2)⟩
      · rw [hb, if_pos rfl] at hM
        have HCR : Hid (valuesM v = false) := by unfold Hid; rw [valuesM_eq, hb]; rfl
        have HM := Lib.hid hM
        clear hM hb
        go_enter Try.func35, Try.ntmps35
        go_wp2_with fail
        rw [← HW.out]
        refine (stepError_any i GA vn gc RA rn rc OA on oc N RB pn pc IA jn jc regs ins W HN.out HR.out HI.out HPM.out HJM.out HLO.out).mono ?_; rintro e w1 ⟨rfl, x1⟩; rw [H0.out]
        obtain ⟨q0, q1, q2, q3⟩ := HBox.out.keep x1.keeps
        have X1 := Lib.hid x1; clear x1
        go_wp2_with fail
        refine (values_any VA vn vc v w1 (HV.out.keep X1.out.keeps) HVM.out).mono ?_; rintro e w2 ⟨rfl, rfl⟩; rw [HCR.out]
        go_wp2
        go_ret2
        exact ⟨by rw [← HM.out]; rfl, HX.out.trans X1.out⟩
    · rw [if_pos h1] at hM
      have HM := Lib.hid hM
      have hb : ((vn : Int) != (gn : Int)) = true := by simp; omega
      clear hM
      go_enter Try.func35, Try.ntmps35
      go_wp2_with fail
      rw [← HW.out]
      refine (stepError_any i GA gn gc RA rn rc OA on oc N RB pn pc IA jn jc regs ins W HN.out HR.out HI.out HPM.out HJM.out HLO.out).mono ?_; rintro e w1 ⟨rfl, x1⟩; rw [H0.out]
      obtain ⟨q0, q1, q2, q3⟩ := HBox.out.keep x1.keeps
      go_wp2
      go_ret2
      exact ⟨by rw [← HM.out]; rfl, HX.out.trans x1⟩
  · rw [if_pos h0] at hM
    have g : (askedM N regs ins != 0) = true := by simpa using h0
    have HM := Lib.hid hM; clear hM h0
    go_enter Try.func35, Try.ntmps35
    go_wp2_with fail
    rw [← HW.out]
    refine (stepError_any i GA gn gc RA rn rc OA on oc N RB pn pc IA jn jc regs ins W HN.out HR.out HI.out HPM.out HJM.out HLO.out).mono ?_; rintro e w1 ⟨rfl, x1⟩
    go_wp2
    go_ret2
    exact ⟨by rw [← HM.out]; rfl, HX.out.trans x1⟩
end Go.Proofs.Ytjagbnaacfhokaa
