/- Solves, by the program and by the reference; StepOf. -/
import Derived.Test.YtlafiddfplhafaaFa07
import Derived.Test.YtlafiddfplhafaaFa08
import Derived.Test.YtlafiddfplhafaaFa04
import Derived.RegionTactic
namespace Go.Proofs.Ytlafiddfplhafaa
set_option linter.unusedVariables false
set_option linter.unusedSimpArgs false
set_option linter.unusedVariables false
set_option linter.unusedSimpArgs false
open Go.RowKit
section
variable (i : Int) (GA : Option Addr) (gn gc : Nat) (RA : Option Addr) (rn rc : Nat) (OA : Option Addr) (on oc : Nat) (N : NetM) (RB : Option Addr) (pn pc : Nat) (IA : Option Addr) (jn jc : Nat) (regs ins : List Int) (w : World)
end
end Go.Proofs.Ytlafiddfplhafaa
/- One instant: Turn and Do, by the program and by the reference. -/
namespace Go.Proofs.Ytlafiddfplhafaa
set_option linter.unusedVariables false
set_option linter.unusedSimpArgs false
open Go.RowKit
abbrev turnQ (N : NetM) (regs ins : List Int) : List Int × List Int := (turnN N regs ins).getD ([], [])
/-- Two rows that a call made. -/
def TwoOwn (w w' : World) (vo vn : Value) (q : List Int × List Int) : Prop :=
  w'.ownsRow w.heap.size 3 1 vo q.1.length (q.1.map I) ∧ w'.ownsRow w.heap.size 3 1 vn q.2.length (q.2.map I) ∧ Ext w w'
theorem pickM_len (v l : List Int) : (pickM v l).length = l.length := by simp [pickM]
section
variable (i : Int) (GA : Option Addr) (gn gc : Nat) (RA : Option Addr) (rn rc : Nat) (OA : Option Addr) (on oc : Nat) (N : NetM) (RB : Option Addr) (pn pc : Nat) (IA : Option Addr) (jn jc : Nat) (regs ins : List Int) (w : World)
set_option maxRecDepth 100000 in
set_option maxHeartbeats 4000000 in
theorem turn_net_any (h : NetC w i GA gn gc RA rn rc OA on oc N) (hr : Sl w RB pn (regs.map I)) (hi : Sl w IA jn (ins.map I)) (ak : AskedOK N regs ins) :
    Calls Try.prog 44 #[netV i GA gn gc RA rn rc OA on oc, .slice RB pn pc, .slice IA jn jc] w fun e w' => ∃ vo vn, e = .returned (Pr3 vo vn (Bv (turnN N regs ins).isSome)) ∧ TwoOwn w w' vo vn (turnQ N regs ins) := by
  have hgl : N.gates.length = gn := h.gates.1
  have hrl : N.regs.length = rn := h.regs.1
  have hol : N.outs.length = on := h.outs.len
  obtain ⟨W, hW⟩ : ∃ W, W = w.alloc (.cells #[I i, .slice GA gn gc, .slice RA rn rc, .slice OA on oc] 39) := ⟨_, rfl⟩
  have hxW : Ext w W := by rw [hW]; exact (Ext.refl _).alloc _
  have hbox : NetBox W w.heap.size i GA gn gc RA rn rc OA on oc := by rw [hW]; exact NetBox.new w i GA gn gc RA rn rc OA on oc _
  have HN := Lib.hid (h.keep hxW.keeps); have HBox := Lib.hid hbox; have HW := Lib.hid hW; have HX := Lib.hid hxW; have HAK := Lib.hid ak
  have HR := Lib.hid (hr.keep hxW.keeps); have HI := Lib.hid (hi.keep hxW.keeps)
  have hsl : (settledM N.gates regs ins).length = gn := by rw [settled_len, hgl]
  generalize hM : turnN N regs ins = M
  have hQ : turnQ N regs ins = M.getD ([], []) := by unfold turnQ; rw [hM]
  rw [hQ]
  unfold turnN at hM
  have hgm : gn ≤ maxLen := by have := ak.net.gl; unfold maxLen; omega
  have hr20 : rn ≤ 20 := by have := ak.net.rl; omega
  have ho3 : on ≤ 3 := by have := ak.net.ol; omega
  have hio : inR gn N.outs := by have := ak.net.outs; rwa [hgl] at this
  have hin : inR gn (nextsM N) := by have := ak.net.nexts; rwa [hgl] at this
  clear h hr hi hW hxW hbox hQ ak hgl
  cases hc : (settledM N.gates regs ins).contains 2
  · rw [hc, if_neg (by simp)] at hM
    subst hM
    have HC := Lib.hid hc; have HSL := Lib.hid hsl; have HIO := Lib.hid hio; have HIN := Lib.hid hin
    have HL1 : Hid ((pickM (settledM N.gates regs ins) N.outs).length = on) := by unfold Hid; rw [pickM_len, hol]
    have HL2 : Hid ((pickM (settledM N.gates regs ins) (nextsM N)).length = rn) := by unfold Hid; rw [pickM_len]; simp [nextsM, hrl]
    clear hc hsl hio hin hrl hol
    go_enter Try.func44, Try.ntmps44
    go_wp2_with fail
    rw [← HW.out]
    refine (settle_any i GA gn gc RA rn rc OA on oc N RB pn pc IA jn jc regs ins W HN.out HR.out HI.out HAK.out).mono ?_; rintro e w1 ⟨v, rfl, hown, x1⟩
    obtain ⟨VA, vc, rfl, -, -, hs⟩ := own_sl hown
    have hbx := HBox.out.keep x1.keeps
    have S := Lib.hid hs; have X1 := Lib.hid x1; have BX := Lib.hid hbx; have NN := Lib.hid (HN.out.keep x1.keeps)
    clear hs x1 hown hbx
    go_wp2_with fail
    refine (containsInt_any VA gn vc _ 2 w1 S.out hgm).mono ?_; rintro e w2 ⟨rfl, rfl⟩; rw [HC.out]
    go_wp2_with fail
    have B0 : Hid (w1.cell? ⟨w.heap.size, 0, none⟩ = some (I i)) := BX.out.1
    have B1 : Hid (w1.cell? ⟨w.heap.size, 1, none⟩ = some (.slice GA gn gc)) := BX.out.2.1
    have B2 : Hid (w1.cell? ⟨w.heap.size, 2, none⟩ = some (.slice RA rn rc)) := BX.out.2.2.1
    have B3 : Hid (w1.cell? ⟨w.heap.size, 3, none⟩ = some (.slice OA on oc)) := BX.out.2.2.2
    generalize hS : settledM N.gates regs ins = SV at *
    refine wp_flow3 11 0 [isV (.slice VA gn vc), isV (.pointer (some ⟨w.heap.size, 3, none⟩)), isV (.slice OA on oc), fun v w => ∃ A c, v = .slice A on c ∧ w.ownsRow w1.heap.size 3 1 (.slice A on c) on ((pickM SV N.outs).map I), isV (.slice VA gn vc), isV (.agg #[.int .i64 i, .slice GA gn gc, .slice RA rn rc, .slice OA on oc]), fun v w => ∃ A c, v = .slice A rn c ∧ w.ownsRow w1.heap.size 3 1 (.slice A rn c) rn ((nextsM N).map I), fun v w => ∃ A c, v = .slice A rn c ∧ w.ownsRow w1.heap.size 3 1 (.slice A rn c) rn ((pickM SV (nextsM N)).map I), fun v w => ∃ A c, v = .slice A on c ∧ w.ownsRow w1.heap.size 3 1 (.slice A on c) on ((pickM SV N.outs).map I), fun v w => ∃ A c, v = .slice A rn c ∧ w.ownsRow w1.heap.size 3 1 (.slice A rn c) rn ((pickM SV (nextsM N)).map I), isV (.bool true)] (by kernel_rfl) rfl rfl (by kernel_rfl) (by kernel_rfl) ⟨isV_mono, isV_mono, isV_mono, fun v w w' ⟨A, c, e, h⟩ hx => ⟨A, c, e, own_ext h hx⟩, isV_mono, isV_mono, fun v w w' ⟨A, c, e, h⟩ hx => ⟨A, c, e, own_ext h hx⟩, fun v w w' ⟨A, c, e, h⟩ hx => ⟨A, c, e, own_ext h hx⟩, fun v w w' ⟨A, c, e, h⟩ hx => ⟨A, c, e, own_ext h hx⟩, fun v w w' ⟨A, c, e, h⟩ hx => ⟨A, c, e, own_ext h hx⟩, isV_mono, trivial⟩ ?each ?rest
    case each =>
      refine .cons ?_ (.cons ?_ (.cons ?_ (.cons ?_ (.cons ?_ (.cons ?_ (.cons ?_ (.cons ?_ (.cons ?_ (.cons ?_ (.cons ?_ (.nil)))))))))))
      · intro fa fw hx hs hb
        have s9 : fa.tmps[(9 : Nat)]? = some (.slice VA gn vc) := (hb 9 (by kernel_rfl)).trans (by rfl)
        refine .inl ⟨wanted_free rfl, fun K hK => ?_⟩
        clear hs hb hx
        go_simp
        exact hK _ _ rfl (Ext.refl _)
      · intro fa fw hx hs hb
        have s3 : fa.tmps[(3 : Nat)]? = some (.pointer (some ⟨w.heap.size, 0, none⟩)) := (hb 3 (by kernel_rfl)).trans (by rfl)
        refine .inl ⟨wanted_free rfl, fun K hK => ?_⟩
        clear hs hb hx
        go_simp
        exact hK _ _ rfl (Ext.refl _)
      · intro fa fw hx hs hb
        obtain ⟨_, s18, rfl⟩ := hs 1 18 (by kernel_rfl) (by kernel_rfl)
        have c0 := hx.keeps _ _ B3.out
        refine .inl ⟨wanted_free rfl, fun K hK => ?_⟩
        clear hs hb hx
        go_simp
        exact hK _ _ rfl (Ext.refl _)
      · intro fa fw hx hs hb
        obtain ⟨_, s17, rfl⟩ := hs 0 17 (by kernel_rfl) (by kernel_rfl)
        obtain ⟨_, s19, rfl⟩ := hs 2 19 (by kernel_rfl) (by kernel_rfl)
        refine .inl ⟨wanted_free rfl, fun K hK => ?_⟩
        clear hs hb
        go_simp
        refine (pick_any VA gn vc OA on oc SV N.outs fw (S.out.keep hx.keeps) (NN.out.outs.keep hx.keeps) HIO.out (by omega)).mono ?_
        rintro e w' ⟨r, rfl, ho, xq⟩
        obtain ⟨Aq, cq, rfl, -, -, -⟩ := own_sl ho
        exact hK _ _ ⟨Aq, cq, rfl, own_base ho hx.size⟩ xq
      · intro fa fw hx hs hb
        have s9 : fa.tmps[(9 : Nat)]? = some (.slice VA gn vc) := (hb 9 (by kernel_rfl)).trans (by rfl)
        refine .inl ⟨wanted_free rfl, fun K hK => ?_⟩
        clear hs hb hx
        go_simp
        exact hK _ _ rfl (Ext.refl _)
      · intro fa fw hx hs hb
        have s3 : fa.tmps[(3 : Nat)]? = some (.pointer (some ⟨w.heap.size, 0, none⟩)) := (hb 3 (by kernel_rfl)).trans (by rfl)
        have c0 := hx.keeps _ _ B0.out
        have c1 := hx.keeps _ _ B1.out
        have c2 := hx.keeps _ _ B2.out
        have c3 := hx.keeps _ _ B3.out
        refine .inl ⟨wanted_free rfl, fun K hK => ?_⟩
        clear hs hb hx
        go_simp
        exact hK _ _ rfl (Ext.refl _)
      · intro fa fw hx hs hb
        obtain ⟨_, s22, rfl⟩ := hs 5 22 (by kernel_rfl) (by kernel_rfl)
        refine .inl ⟨wanted_free rfl, fun K hK => ?_⟩
        clear hs hb
        go_simp
        refine (nexts_any i GA gn gc RA rn rc OA on oc N fw (NN.out.keep hx.keeps) hr20).mono ?_
        rintro e w' ⟨r, rfl, ho, xq⟩
        obtain ⟨Aq, cq, rfl, -, -, -⟩ := own_sl ho
        exact hK _ _ ⟨Aq, cq, rfl, own_base ho hx.size⟩ xq
      · intro fa fw hx hs hb
        obtain ⟨_, s21, rfl⟩ := hs 4 21 (by kernel_rfl) (by kernel_rfl)
        obtain ⟨_, s23, A23, c23, rfl, q23⟩ := hs 6 23 (by kernel_rfl) (by kernel_rfl)
        refine .inl ⟨wanted_free rfl, fun K hK => ?_⟩
        clear hs hb
        obtain ⟨Ar, cr, er, -, -, hsr⟩ := own_sl q23
        injection er with er _ ec
        subst er; subst ec
        go_simp
        refine (pick_any VA gn vc A23 rn c23 SV (nextsM N) fw (S.out.keep hx.keeps) hsr HIN.out (by omega)).mono ?_
        rintro e w' ⟨r, rfl, ho, xq⟩
        obtain ⟨Aq, cq, rfl, -, -, -⟩ := own_sl ho
        exact hK _ _ ⟨Aq, cq, rfl, own_base ho hx.size⟩ xq
      · intro fa fw hx hs hb
        obtain ⟨_, s20, A20, c20, rfl, q20⟩ := hs 3 20 (by kernel_rfl) (by kernel_rfl)
        refine .inl ⟨wanted_free rfl, fun K hK => ?_⟩
        clear hs hb
        go_simp
        exact hK _ _ ⟨A20, c20, rfl, q20⟩ (Ext.refl _)
      · intro fa fw hx hs hb
        obtain ⟨_, s24, A24, c24, rfl, q24⟩ := hs 7 24 (by kernel_rfl) (by kernel_rfl)
        refine .inl ⟨wanted_free rfl, fun K hK => ?_⟩
        clear hs hb
        go_simp
        exact hK _ _ ⟨A24, c24, rfl, q24⟩ (Ext.refl _)
      · intro fa fw hx hs hb
        refine .inl ⟨wanted_free rfl, fun K hK => ?_⟩
        clear hs hb hx
        go_simp
        exact hK _ _ rfl (Ext.refl _)
    case rest =>
      intro w2 hxw2
      rintro _ rfl
      rintro _ rfl
      rintro _ rfl
      rintro _ ⟨A20, c20, rfl, q20⟩
      rintro _ rfl
      rintro _ rfl
      rintro _ ⟨A23, c23, rfl, q23⟩
      rintro _ ⟨A24, c24, rfl, q24⟩
      rintro _ ⟨A6, c6, rfl, q6⟩
      rintro _ ⟨A7, c7, rfl, q7⟩
      rintro _ rfl
      simp only [putAll, List.take, Act.put, List.setIfInBounds_toArray, List.set_cons_zero, List.set_cons_succ]
      refine wpAny_done (by kernel_rfl) ?_ _
      go_wp2
      refine bodyPost_ret (v := Pr3 (.slice A6 on c6) (.slice A7 rn c7) (.bool true)) (by simp [results, Try.results44, go_sem]) rfl ⟨_, _, rfl, ?_, ?_, ?_⟩
      · rw [hS, show (Option.getD (some (pickM SV N.outs, pickM SV (nextsM N))) ([], [])).1.length = on from HL1.out]; exact own_base q6 (HX.out.trans X1.out).size
      · rw [hS, show (Option.getD (some (pickM SV N.outs, pickM SV (nextsM N))) ([], [])).2.length = rn from HL2.out]; exact own_base q7 (HX.out.trans X1.out).size
      · exact (HX.out.trans X1.out).trans hxw2
  · rw [hc, if_pos rfl] at hM
    subst hM
    have HC := Lib.hid hc; have HSL := Lib.hid hsl
    clear hc hsl hio hin hrl hol
    go_enter Try.func44, Try.ntmps44
    go_wp2_with fail
    rw [← HW.out]
    refine (settle_any i GA gn gc RA rn rc OA on oc N RB pn pc IA jn jc regs ins W HN.out HR.out HI.out HAK.out).mono ?_; rintro e w1 ⟨v, rfl, hown, x1⟩
    obtain ⟨VA, vc, rfl, -, -, hs⟩ := own_sl hown
    have S := Lib.hid hs; have X1 := Lib.hid x1
    clear hs x1 hown
    go_wp2_with fail
    refine (containsInt_any VA gn vc _ 2 w1 S.out hgm).mono ?_; rintro e w2 ⟨rfl, rfl⟩; rw [HC.out]
    go_wp2
    refine bodyPost_ret (v := Pr3 (.slice none 0 0) (.slice none 0 0) (.bool false)) (by simp [results, Try.results44, go_sem]) rfl ⟨_, _, rfl, World.ownsRow_nil _ _ _ _, World.ownsRow_nil _ _ _ _, HX.out.trans X1.out⟩
end
end Go.Proofs.Ytlafiddfplhafaa
