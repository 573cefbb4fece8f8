/- Fold, by the program. -/
import Derived.Test.YtlafiddfplhafaaFc22
import Derived.Test.YtlafiddfplhafaaFc05
import Derived.Test.YtlafiddfplhafaaFc06
import Derived.Test.YtlafiddfplhafaaFc02
import Derived.Deep.RegionHeld3
import Derived.Deep.AppendLies
import Derived.Test.YtlafiddfplhafaaFc23
import Derived.Test.YtlafiddfplhafaaFc19
import Derived.Test.YtlafiddfplhafaaFc24
import Derived.Test.YtlafiddfplhafaaFc08
namespace Go.Proofs.Ytlafiddfplhafaa
set_option linter.unusedVariables false
set_option linter.unusedSimpArgs false
set_option linter.unusedVariables false
set_option linter.unusedSimpArgs false
open Go.RowKit
section
variable (i : Int) (GA : Option Addr) (gn gc : Nat) (RA : Option Addr) (rn rc : Nat) (OA : Option Addr) (on oc : Nat) (N : NetM) (w : World)
set_option maxRecDepth 100000 in
set_option maxHeartbeats 8000000 in
theorem fold_any (h : NetC w i GA gn gc RA rn rc OA on oc N) :
  Calls Try.prog 20 #[netV i GA gn gc RA rn rc OA on oc] w fun e w' => NetRes w w' w.heap.size e (checkN N) (foldR N) := by
 have hgl : N.gates.length = gn := h.gates.1
 have hrl : N.regs.length = rn := h.regs.1
 have hol : N.outs.length = on := h.outs.len
 have hin := h.ins
 obtain ⟨W0, hW0⟩ : ∃ W, W = w.alloc (.cells #[I i, .slice GA gn gc, .slice RA rn rc, .slice OA on oc] 39) := ⟨_, rfl⟩
 have hx0 : Ext w W0 := by rw [hW0]; exact (Ext.refl _).alloc _
 obtain ⟨W, hW⟩ : ∃ W, W = W0.alloc (.cells #[I 0, .slice none 0 0, .slice none 0 0, .slice none 0 0] 39) := ⟨_, rfl⟩
 have hx1 : Ext W0 W := by rw [hW]; exact (Ext.refl _).alloc _
 have hs0 : W0.heap.size = w.heap.size + 1 := by rw [hW0]; simp
 have hbox : NetBox W w.heap.size i GA gn gc RA rn rc OA on oc := by
  have : NetBox W0 w.heap.size i GA gn gc RA rn rc OA on oc := by rw [hW0]; exact NetBox.new w i GA gn gc RA rn rc OA on oc _
  exact this.keep hx1.keeps
 have hz : Box W (w.heap.size + 1) 39 [I 0, .slice none 0 0, .slice none 0 0, .slice none 0 0] := by rw [← hs0, hW]; exact Box.new W0 _ _
 have HN := Lib.hid (h.keep (hx0.trans hx1).keeps); have HBox := Lib.hid hbox; have HX := Lib.hid (hx0.trans hx1); have HZ := Lib.hid hz
 have HW : Hid (W = (w.alloc (.cells #[I i, .slice GA gn gc, .slice RA rn rc, .slice OA on oc] 39)).alloc (.cells #[I 0, .slice none 0 0, .slice none 0 0, .slice none 0 0] 39)) := by unfold Hid; rw [hW, hW0]
 clear h hW0 hx0 hW hx1 hs0 hbox hz
 by_cases hc : checkN N = 0
 ·have ok := checkN_ok hc
  have hFR : foldR N = foldN N := by unfold foldR; rw [if_pos hc]
  rw [hFR, hc]
  have ak := opens_asked ok
  rw [hrl] at ak
  obtain ⟨m, rfl⟩ : ∃ m : Nat, i = m := ⟨i.toNat, by have := ok.ins0; omega⟩
  have hm : N.ins.toNat = m := by omega
  have hm3 : m ≤ 3 := by have := ok.ins3; omega
  have hr20 : rn ≤ 20 := by have := ok.rl; omega
  have ho3 : on ≤ 3 := by have := ok.ol; omega
  have hg200 : gn ≤ 200 := by have := ok.gl; omega
  rw [hm] at ak
  have hV : foldV N = settledM N.gates (opensM rn) (opensM m) := by unfold foldV; rw [hrl, hm]
  have hVl : (foldV N).length = gn := by rw [foldV_len, hgl]
  have hVg := foldV_good N
  obtain ⟨F, hF⟩ : ∃ F, F = (foldN N).gates := ⟨_, rfl⟩
  have hFl : F.length = gn := by rw [hF, foldN_len, hgl]
  have hFat : ∀ (k : Nat) g, N.gates[k]? = some g → F[k]? = some (foldG g (valI (foldV N) k)) := fun k g hg => by rw [hF]; exact foldGs_at N.gates (foldV N) k g (foldV_len N).symm hg
  generalize hVV : foldV N = V at *
  have HV := Lib.hid hV; have HVL := Lib.hid hVl; have HVG := Lib.hid hVg; have HFA := Lib.hid hFat; have HFL := Lib.hid hFl; have HF := Lib.hid hF
  have HC := Lib.hid hc; have AK := Lib.hid ak; have HOK := Lib.hid ok; have HIN := Lib.hid hin
  clear hc ok ak hV hVl hVg hF hFl hFat hFR hVV hgl hrl hol hin hm
  go_enter Try.func20, Try.ntmps20
  go_wp2_with fail
  rw [← HW.out]
  refine (netCheck_any m GA gn gc RA rn rc OA on oc N W HN.out).mono ?_; rintro e w1 ⟨rfl, x1⟩; rw [HC.out]
  have hbx := HBox.out.keep x1.keeps
  have NN := Lib.hid (HN.out.keep x1.keeps)
  have B0 : Hid (w1.cell? ⟨w.heap.size, 0, none⟩ = some (I m)) := hbx.1
  have B1 : Hid (w1.cell? ⟨w.heap.size, 1, none⟩ = some (.slice GA gn gc)) := hbx.2.1
  have B2 : Hid (w1.cell? ⟨w.heap.size, 2, none⟩ = some (.slice RA rn rc)) := hbx.2.2.1
  have B3 : Hid (w1.cell? ⟨w.heap.size, 3, none⟩ = some (.slice OA on oc)) := hbx.2.2.2
  have X1 := Lib.hid x1
  clear x1 hbx
  have hst : ∀ Q (A5 : Option Addr) (c5 : Nat) (B5 : Option Addr) (d5 : Nat), Ext w1 Q → Sl Q A5 rn ((opensM rn).map I) → Sl Q B5 m ((opensM m).map I) → Calls Try.prog 54 #[netV m GA gn gc RA rn rc OA on oc, handV A5 rn c5 B5 m d5] Q fun e w' => ∃ v, e = .returned v ∧ w'.ownsRow Q.heap.size 3 1 v gn (V.map I) ∧ Ext Q w' := fun Q A5 c5 B5 d5 hQ h1 h2 => by
   rw [HV.out]; exact settle_any m GA gn gc RA rn rc OA on oc N A5 rn c5 B5 m d5 _ _ Q (NN.out.keep hQ.keeps) h1 h2 AK.out
  have hop : ∀ Q (k : Nat), k ≤ 20 → Calls Try.prog 52 #[I k] Q fun e w' => ∃ v, e = .returned v ∧ w'.ownsRow Q.heap.size 3 1 v k ((opensM k).map I) ∧ Ext Q w' := fun Q k hk => fold1_any k Q hk
  have hcs : ∀ Q, Ext w1 Q → Calls Try.prog 55 #[.slice RA rn rc] Q fun e w' => ∃ v, e = .returned v ∧ w'.ownsRow Q.heap.size 79 2 v rn (storeCs N.regs) ∧ Ext Q w' := fun Q hQ => cloneStores_any RA rn rc N.regs Q (NN.out.regs.keep hQ.keeps) (by omega)
  have hci : ∀ Q, Ext w1 Q → Calls Try.prog 48 #[.slice OA on oc] Q fun e w' => ∃ v, e = .returned v ∧ w'.ownsRow Q.heap.size 3 1 v on (N.outs.map I) ∧ Ext Q w' := fun Q hQ => cloneInts_any OA on oc N.outs Q (NN.out.outs.keep hQ.keeps) (by omega)
  have ST := Lib.hid hst; have OP := Lib.hid hop; have CS := Lib.hid hcs; have CI := Lib.hid hci
  clear hst hop hcs hci
  go_wp2_with fail
  refine wp_flow3 13 0 [isV (.agg #[.int .i64 m, .slice GA gn gc, .slice RA rn rc, .slice OA on oc]), isV (.func (.func 52) #[] #[]), isV (.pointer (some ⟨w.heap.size, 2, none⟩)), isV (.slice RA rn rc), isV (.int .i64 rn), fun v w => ∃ A c, v = .slice A rn c ∧ w.ownsRow w1.heap.size 3 1 (.slice A rn c) rn ((opensM rn).map I), isV (.func (.func 52) #[] #[]), isV (.pointer (some ⟨w.heap.size, 0, none⟩)), isV (.int .i64 m), fun v w => ∃ A c, v = .slice A m c ∧ w.ownsRow w1.heap.size 3 1 (.slice A m c) m ((opensM m).map I), fun v w => ∃ A c B d, v = .agg #[.slice A rn c, .slice B m d] ∧ w.ownsRow w1.heap.size 3 1 (.slice A rn c) rn ((opensM rn).map I) ∧ w.ownsRow w1.heap.size 3 1 (.slice B m d) m ((opensM m).map I), fun v w => ∃ A c, v = .slice A gn c ∧ w.ownsRow w1.heap.size 3 1 (.slice A gn c) gn (V.map I), fun v w => ∃ A c, v = .slice A gn c ∧ w.ownsRow w1.heap.size 3 1 (.slice A gn c) gn (V.map I)] (by kernel_rfl) rfl rfl (by kernel_rfl) (by kernel_rfl) ⟨isV_mono, isV_mono, isV_mono, isV_mono, isV_mono, fun v w w' ⟨A, c, e, h⟩ hx => ⟨A, c, e, own_ext h hx⟩, isV_mono, isV_mono, isV_mono, fun v w w' ⟨A, c, e, h⟩ hx => ⟨A, c, e, own_ext h hx⟩, fun v w w' ⟨A, c, B, d, e, h, k⟩ hx => ⟨A, c, B, d, e, own_ext h hx, own_ext k hx⟩, fun v w w' ⟨A, c, e, h⟩ hx => ⟨A, c, e, own_ext h hx⟩, fun v w w' ⟨A, c, e, h⟩ hx => ⟨A, c, e, own_ext h hx⟩, trivial⟩ ?each ?rest
  case each =>
   refine .cons ?_ (.cons ?_ (.cons ?_ (.cons ?_ (.cons ?_ (.cons ?_ (.cons ?_ (.cons ?_ (.cons ?_ (.cons ?_ (.cons ?_ (.cons ?_ (.cons ?_ (.nil)))))))))))))
   ·intro fa fw hx hs hb
    have s1 : fa.tmps[(1 : Nat)]? = some (.pointer (some ⟨w.heap.size, 0, none⟩)) := (hb 1 (by kernel_rfl)).trans (by rfl)
    have c0 := hx.keeps _ _ B0.out
    have c1 := hx.keeps _ _ B1.out
    have c2 := hx.keeps _ _ B2.out
    have c3 := hx.keeps _ _ B3.out
    refine .inl ⟨wanted_free rfl, fun K hK => ?_⟩
    clear hs hb hx
    go_simp
    exact hK _ _ rfl (Ext.refl _)
   ·intro fa fw hx hs hb
    have s5 : fa.tmps[(5 : Nat)]? = some (.func (.func 52) #[] #[]) := (hb 5 (by kernel_rfl)).trans (by rfl)
    refine .inl ⟨wanted_free rfl, fun K hK => ?_⟩
    clear hs hb hx
    go_simp
    exact hK _ _ rfl (Ext.refl _)
   ·intro fa fw hx hs hb
    have s1 : fa.tmps[(1 : Nat)]? = some (.pointer (some ⟨w.heap.size, 0, none⟩)) := (hb 1 (by kernel_rfl)).trans (by rfl)
    refine .inl ⟨wanted_free rfl, fun K hK => ?_⟩
    clear hs hb hx
    go_simp
    exact hK _ _ rfl (Ext.refl _)
   ·intro fa fw hx hs hb
    obtain ⟨_, s18, rfl⟩ := hs 2 18 (by kernel_rfl) (by kernel_rfl)
    have c0 := hx.keeps _ _ B2.out
    refine .inl ⟨wanted_free rfl, fun K hK => ?_⟩
    clear hs hb hx
    go_simp
    exact hK _ _ rfl (Ext.refl _)
   ·intro fa fw hx hs hb
    obtain ⟨_, s19, rfl⟩ := hs 3 19 (by kernel_rfl) (by kernel_rfl)
    refine .inl ⟨wanted_free rfl, fun K hK => ?_⟩
    clear hs hb
    go_simp
    exact hK _ _ rfl (Ext.refl _)
   ·intro fa fw hx hs hb
    obtain ⟨_, s17, rfl⟩ := hs 1 17 (by kernel_rfl) (by kernel_rfl)
    obtain ⟨_, s20, rfl⟩ := hs 4 20 (by kernel_rfl) (by kernel_rfl)
    refine .inl ⟨wanted_free rfl, fun K hK => ?_⟩
    clear hs hb
    go_simp
    refine (OP.out fw rn (by omega)).mono ?_
    rintro e w' ⟨r0, rfl, ho, xq⟩
    obtain ⟨Aq, cq, rfl, -, -, -⟩ := own_sl ho
    exact hK _ _ ⟨Aq, cq, rfl, own_base ho hx.size⟩ xq
   ·intro fa fw hx hs hb
    have s5 : fa.tmps[(5 : Nat)]? = some (.func (.func 52) #[] #[]) := (hb 5 (by kernel_rfl)).trans (by rfl)
    refine .inl ⟨wanted_free rfl, fun K hK => ?_⟩
    clear hs hb hx
    go_simp
    exact hK _ _ rfl (Ext.refl _)
   ·intro fa fw hx hs hb
    have s1 : fa.tmps[(1 : Nat)]? = some (.pointer (some ⟨w.heap.size, 0, none⟩)) := (hb 1 (by kernel_rfl)).trans (by rfl)
    refine .inl ⟨wanted_free rfl, fun K hK => ?_⟩
    clear hs hb hx
    go_simp
    exact hK _ _ rfl (Ext.refl _)
   ·intro fa fw hx hs hb
    obtain ⟨_, s23, rfl⟩ := hs 7 23 (by kernel_rfl) (by kernel_rfl)
    have c0 := hx.keeps _ _ B0.out
    refine .inl ⟨wanted_free rfl, fun K hK => ?_⟩
    clear hs hb hx
    go_simp
    exact hK _ _ rfl (Ext.refl _)
   ·intro fa fw hx hs hb
    obtain ⟨_, s22, rfl⟩ := hs 6 22 (by kernel_rfl) (by kernel_rfl)
    obtain ⟨_, s24, rfl⟩ := hs 8 24 (by kernel_rfl) (by kernel_rfl)
    refine .inl ⟨wanted_free rfl, fun K hK => ?_⟩
    clear hs hb
    go_simp
    refine (OP.out fw m (by omega)).mono ?_
    rintro e w' ⟨r0, rfl, ho, xq⟩
    obtain ⟨Aq, cq, rfl, -, -, -⟩ := own_sl ho
    exact hK _ _ ⟨Aq, cq, rfl, own_base ho hx.size⟩ xq
   ·intro fa fw hx hs hb
    obtain ⟨_, s21, A21, c21, rfl, q21⟩ := hs 5 21 (by kernel_rfl) (by kernel_rfl)
    obtain ⟨_, s25, A25, c25, rfl, q25⟩ := hs 9 25 (by kernel_rfl) (by kernel_rfl)
    refine .inl ⟨wanted_free rfl, fun K hK => ?_⟩
    clear hs hb
    go_simp
    exact hK _ _ ⟨A21, c21, A25, c25, rfl, q21, q25⟩ (Ext.refl _)
   ·intro fa fw hx hs hb
    obtain ⟨_, s16, rfl⟩ := hs 0 16 (by kernel_rfl) (by kernel_rfl)
    obtain ⟨_, s26, A26, c26, B26, d26, rfl, q26, p26⟩ := hs 10 26 (by kernel_rfl) (by kernel_rfl)
    refine .inl ⟨wanted_free rfl, fun K hK => ?_⟩
    clear hs hb
    obtain ⟨Ar, cr, er, -, -, hsr⟩ := own_sl q26
    injection er with er _ ec
    subst er; subst ec
    obtain ⟨Ai, ci, ei, -, -, hsi⟩ := own_sl p26
    injection ei with ei _ ec
    subst ei; subst ec
    go_simp
    refine (ST.out fw _ _ _ _ hx hsr hsi).mono ?_
    rintro e w' ⟨r0, rfl, ho, xq⟩
    obtain ⟨Aq, cq, rfl, -, -, -⟩ := own_sl ho
    exact hK _ _ ⟨Aq, cq, rfl, own_base ho hx.size⟩ xq
   ·intro fa fw hx hs hb
    obtain ⟨_, s27, A27, c27, rfl, q27⟩ := hs 11 27 (by kernel_rfl) (by kernel_rfl)
    refine .inl ⟨wanted_free rfl, fun K hK => ?_⟩
    clear hs hb
    go_simp
    exact hK _ _ ⟨A27, c27, rfl, q27⟩ (Ext.refl _)
  case rest =>
   intro w2 hxw2
   rintro _ rfl
   rintro _ rfl
   rintro _ rfl
   rintro _ rfl
   rintro _ rfl
   rintro _ ⟨A21, c21, rfl, q21⟩
   rintro _ rfl
   rintro _ rfl
   rintro _ rfl
   rintro _ ⟨A25, c25, rfl, q25⟩
   rintro _ ⟨A26, c26, B26, d26, rfl, q26, p26⟩
   rintro _ ⟨A27, c27, rfl, q27⟩
   rintro _ ⟨A6, c6, rfl, q6⟩
   simp only [putAll, List.take, Act.put, List.setIfInBounds_toArray, List.set_cons_zero, List.set_cons_succ]
   refine wpAny_done (by kernel_rfl) ?_ _
   have B0' := Lib.hid (hxw2.keeps _ _ B0.out); have B1' := Lib.hid (hxw2.keeps _ _ B1.out); have B2' := Lib.hid (hxw2.keeps _ _ B2.out); have B3' := Lib.hid (hxw2.keeps _ _ B3.out)
   have X2 := Lib.hid (X1.out.trans hxw2); have V2 := Lib.hid q6; have X12 := Lib.hid hxw2
   clear hxw2 q6 B0 B1 B2 B3 q21 q25 q26 p26
   go_wp2_with fail
   refine wp_flow4 10 1 [isV (.pointer (some ⟨w.heap.size, 0, none⟩)), isV (.int .i64 m), isV (.pointer (some ⟨w.heap.size, 2, none⟩)), isV (.slice RA rn rc), fun v w => ∃ A c, v = .slice A rn c ∧ w.ownsRow w2.heap.size 79 2 (.slice A rn c) rn (storeCs N.regs), isV (.pointer (some ⟨w.heap.size, 3, none⟩)), isV (.slice OA on oc), fun v w => ∃ A c, v = .slice A on c ∧ w.ownsRow w2.heap.size 3 1 (.slice A on c) on (N.outs.map I), fun v w => ∃ A c B d, v = .agg #[I m, .slice none 0 0, .slice A rn c, .slice B on d] ∧ w.ownsRow w2.heap.size 79 2 (.slice A rn c) rn (storeCs N.regs) ∧ w.ownsRow w2.heap.size 3 1 (.slice B on d) on (N.outs.map I), fun v w => ∃ b, v = .pointer (some ⟨b, 0, none⟩) ∧ w2.heap.size ≤ b ∧ Box w b 39 [I 0, .slice none 0 0, .slice none 0 0, .slice none 0 0]] (by kernel_rfl) rfl rfl (by kernel_rfl) (by kernel_rfl) ⟨isV_mono, isV_mono, isV_mono, isV_mono, fun v w w' ⟨A, c, e, h⟩ hx => ⟨A, c, e, own_ext h hx⟩, isV_mono, isV_mono, fun v w w' ⟨A, c, e, h⟩ hx => ⟨A, c, e, own_ext h hx⟩, fun v w w' ⟨A, c, B, d, e, h, k⟩ hx => ⟨A, c, B, d, e, own_ext h hx, own_ext k hx⟩, fun v w w' ⟨b, e, h, k⟩ hx => ⟨b, e, h, k.ext hx⟩, trivial⟩ ?each ?rest
   case each =>
    refine .cons ?_ (.cons ?_ (.cons ?_ (.cons ?_ (.cons ?_ (.cons ?_ (.cons ?_ (.cons ?_ (.cons ?_ (.cons ?_ (.nil))))))))))
    ·intro fa fw hx hs hb
     have s1 : fa.tmps[(1 : Nat)]? = some (.pointer (some ⟨w.heap.size, 0, none⟩)) := (hb 1 (by kernel_rfl)).trans (by rfl)
     refine .inl ⟨wanted_free rfl, fun K hK => ?_⟩
     clear hs hb hx
     go_simp
     exact hK _ _ rfl (Ext.refl _)
    ·intro fa fw hx hs hb
     obtain ⟨_, s28, rfl⟩ := hs 0 28 (by kernel_rfl) (by kernel_rfl)
     have c0 := hx.keeps _ _ B0'.out
     refine .inl ⟨wanted_free rfl, fun K hK => ?_⟩
     clear hs hb hx
     go_simp
     exact hK _ _ rfl (Ext.refl _)
    ·intro fa fw hx hs hb
     have s1 : fa.tmps[(1 : Nat)]? = some (.pointer (some ⟨w.heap.size, 0, none⟩)) := (hb 1 (by kernel_rfl)).trans (by rfl)
     refine .inl ⟨wanted_free rfl, fun K hK => ?_⟩
     clear hs hb hx
     go_simp
     exact hK _ _ rfl (Ext.refl _)
    ·intro fa fw hx hs hb
     obtain ⟨_, s30, rfl⟩ := hs 2 30 (by kernel_rfl) (by kernel_rfl)
     have c0 := hx.keeps _ _ B2'.out
     refine .inl ⟨wanted_free rfl, fun K hK => ?_⟩
     clear hs hb hx
     go_simp
     exact hK _ _ rfl (Ext.refl _)
    ·intro fa fw hx hs hb
     obtain ⟨_, s31, rfl⟩ := hs 3 31 (by kernel_rfl) (by kernel_rfl)
     refine .inl ⟨wanted_free rfl, fun K hK => ?_⟩
     clear hs hb
     go_simp
     refine (CS.out fw (X12.out.trans hx)).mono ?_
     rintro e w' ⟨r0, rfl, ho, xq⟩
     obtain ⟨Aq, cq, rfl, -, -, -⟩ := own_slice ho
     exact hK _ _ ⟨Aq, cq, rfl, own_base ho hx.size⟩ xq
    ·intro fa fw hx hs hb
     have s1 : fa.tmps[(1 : Nat)]? = some (.pointer (some ⟨w.heap.size, 0, none⟩)) := (hb 1 (by kernel_rfl)).trans (by rfl)
     refine .inl ⟨wanted_free rfl, fun K hK => ?_⟩
     clear hs hb hx
     go_simp
     exact hK _ _ rfl (Ext.refl _)
    ·intro fa fw hx hs hb
     obtain ⟨_, s33, rfl⟩ := hs 5 33 (by kernel_rfl) (by kernel_rfl)
     have c0 := hx.keeps _ _ B3'.out
     refine .inl ⟨wanted_free rfl, fun K hK => ?_⟩
     clear hs hb hx
     go_simp
     exact hK _ _ rfl (Ext.refl _)
    ·intro fa fw hx hs hb
     obtain ⟨_, s34, rfl⟩ := hs 6 34 (by kernel_rfl) (by kernel_rfl)
     refine .inl ⟨wanted_free rfl, fun K hK => ?_⟩
     clear hs hb
     go_simp
     refine (CI.out fw (X12.out.trans hx)).mono ?_
     rintro e w' ⟨r0, rfl, ho, xq⟩
     obtain ⟨Aq, cq, rfl, -, -, -⟩ := own_sl ho
     exact hK _ _ ⟨Aq, cq, rfl, own_base ho hx.size⟩ xq
    ·intro fa fw hx hs hb
     obtain ⟨_, s29, rfl⟩ := hs 1 29 (by kernel_rfl) (by kernel_rfl)
     obtain ⟨_, s32, A32, c32, rfl, q32⟩ := hs 4 32 (by kernel_rfl) (by kernel_rfl)
     obtain ⟨_, s35, A35, c35, rfl, q35⟩ := hs 7 35 (by kernel_rfl) (by kernel_rfl)
     refine .inl ⟨wanted_free rfl, fun K hK => ?_⟩
     clear hs hb
     go_simp
     exact hK _ _ ⟨A32, c32, A35, c35, rfl, q32, q35⟩ (Ext.refl _)
    ·intro fa fw hx hs hb
     refine .inl ⟨wanted_free rfl, fun K hK => ?_⟩
     clear hs hb
     go_simp
     exact hK _ _ ⟨fw.heap.size, rfl, hx.size, Box.new fw _ _⟩ ((Ext.refl _).alloc _)
   case rest =>
    intro w3 hxw3
    rintro _ rfl
    rintro _ rfl
    rintro _ rfl
    rintro _ rfl
    rintro _ ⟨A32, c32, rfl, q32⟩
    rintro _ rfl
    rintro _ rfl
    rintro _ ⟨A35, c35, rfl, q35⟩
    rintro _ ⟨A36, c36, B36, d36, rfl, q36, p36⟩
    rintro _ ⟨b7, rfl, h7, k7⟩
    simp only [putAll, List.take, Act.put, List.setIfInBounds_toArray, List.set_cons_zero, List.set_cons_succ]
    have K7 := Lib.hid k7; have H7 := Lib.hid h7
    have m0 := (k7.cell 0).trans rfl; have m1 := (k7.cell 1).trans rfl; have m2 := (k7.cell 2).trans rfl; have m3 := (k7.cell 3).trans rfl
    simp only [List.getElem?_cons_zero, List.getElem?_cons_succ] at m0 m1 m2 m3
    have f7 := k7.free
    refine wpAny_ready (rs := [10]) (by kernel_rfl) (by simp) (AllReady.cons rfl (fun KK hKK => ?_) AllReady.nil)
    have HRO := Lib.hid q36; have HOO := Lib.hid p36
    have X3 := Lib.hid hxw3
    clear q36 p36 hxw3 k7 h7 q32 q35
    go_simp
    refine hKK _ _ ?_
    clear hKK KK m0 m1 m2 m3 f7
    refine wpAny_done (by kernel_rfl) ?_ _
    obtain ⟨w4, hw4⟩ : ∃ w4, w4 = (((w3.setCell ⟨b7, 0, none⟩ (I m)).setCell ⟨b7, 1, none⟩ (.slice none 0 0)).setCell ⟨b7, 2, none⟩ (.slice A36 rn c36)).setCell ⟨b7, 3, none⟩ (.slice B36 on d36) := ⟨_, rfl⟩
    have hk4 : Box w4 b7 39 [I m, .slice none 0 0, .slice A36 rn c36, .slice B36 on d36] := by rw [hw4]; exact (((K7.out.set 0 (I m)).set 1 (.slice none 0 0)).set 2 (.slice A36 rn c36)).set 3 (.slice B36 on d36)
    have ar := K7.out.apart HRO.out (by decide); have ao := K7.out.apart HOO.out (by decide)
    have hr4 : w4.ownsRow w2.heap.size 79 2 (.slice A36 rn c36) rn (storeCs N.regs) := by rw [hw4]; exact own_set (own_set (own_set (own_set HRO.out ar _ _) ar _ _) ar _ _) ar _ _
    have ho4 : w4.ownsRow w2.heap.size 3 1 (.slice B36 on d36) on (N.outs.map I) := by rw [hw4]; exact own_set (own_set (own_set (own_set HOO.out ao _ _) ao _ _) ao _ _) ao _ _
    have hx4 : Ext w2 w4 := by rw [hw4]; exact (((X3.out.setCell (p := ⟨b7, 0, none⟩) H7.out _).setCell (p := ⟨b7, 1, none⟩) H7.out _).setCell (p := ⟨b7, 2, none⟩) H7.out _).setCell (p := ⟨b7, 3, none⟩) H7.out _
    have HW4 := Lib.hid hw4; have HK4 := Lib.hid hk4; have HR4 := Lib.hid hr4; have HO4 := Lib.hid ho4; have HX4 := Lib.hid hx4
    have NW := Lib.hid (NN.out.keep X12.out.keeps)
    have HZ2 := Lib.hid (HZ.out.ext X2.out)
    obtain ⟨VA, vc, ev, -, -, hsv⟩ := own_sl V2.out
    injection ev with ev _ ev2; subst ev; subst ev2
    have HSV := Lib.hid hsv
    have hb1 := hx4.keeps _ _ B1'.out
    clear hw4 hk4 hr4 ho4 hx4 ar ao HRO HOO K7 hsv
    rw [← HW4.out]
    go_wp2_with fail
    clear hb1 HW4
    go_loopw [40] (fun j wr => ∃ (k : Nat) (A : Option Addr) (c : Nat) (vs : List Value), k ≤ gn ∧ j = .int .i64 k ∧ Ext w2 wr ∧ Box wr b7 39 [I m, .slice A k c, .slice A36 rn c36, .slice B36 on d36] ∧ OwnG wr w2.heap.size (.slice A k c) (F.take k) vs ∧
     wr.ownsRow w2.heap.size 79 2 (.slice A36 rn c36) rn (storeCs N.regs) ∧ wr.ownsRow w2.heap.size 3 1 (.slice B36 on d36) on (N.outs.map I)) (fun j _ => gn - (intOf j).toNat)
    case atStart => exact ⟨0, none, 0, [], Nat.zero_le _, rfl, HX4.out, HK4.out, OwnG.nil _ _, HR4.out, HO4.out⟩
    case round =>
     obtain ⟨k, A, c, vs, hk, rfl, hext, hbx, hog, hor, hoo⟩ := hrel
     by_cases hlt : k < gn
     ·obtain ⟨b, off, A', m', c', g, rfl, c0, c1, c2, hsg, hmc, hcm, -, hg⟩ := (NW.out.keep hext.keeps).gates.next hlt
      obtain ⟨vb, vo, x, rfl, hv0, hvx⟩ := HSV.out.at_ hlt
      have hcv := hext.keeps _ _ hv0
      have hml : m' ≤ 16 := by have := HOK.out.al g (List.mem_of_getElem? hg); have := hsg.len; omega
      have hFk := HFA.out k g hg
      have hvk : valI V k = x := valI_at hvx
      rw [hvk] at hFk
      have hx2 := valI_good HVG.out k
      rw [hvk] at hx2
      have hlen : (F.take k).length = k := by rw [List.length_take, HFL.out]; omega
      obtain ⟨wa, hwa⟩ : ∃ wa, wa = wr.alloc (.cells #[I g.kind, I g.num, .slice A' m' c'] 95) := ⟨_, rfl⟩
      have hxa : Ext wr wa := by rw [hwa]; exact (Ext.refl _).alloc _
      have hba : Box wa wr.heap.size 95 [I g.kind, I g.num, .slice A' m' c'] := by rw [hwa]; exact Box.new wr _ _
      have HE := Lib.hid hext; have HBX := Lib.hid hbx; have HOG := Lib.hid hog; have HOR := Lib.hid hor; have HOOO := Lib.hid hoo; have HSG := Lib.hid hsg; have HFK := Lib.hid hFk; have HLEN := Lib.hid hlen
      have HWA := Lib.hid hwa; have HXA := Lib.hid hxa; have HBA := Lib.hid hba; have HML := Lib.hid hml
      clear hbx hog hor hoo hsg hmc hcm hFk hvk hvx hv0 hlen hwa hxa hba hml hg
      rcases hx2 with rfl | rfl | rfl
      ·obtain ⟨G, hG⟩ : ∃ G : GateM, G = ⟨0, 0, []⟩ := ⟨_, rfl⟩
       obtain ⟨A2, m2, c2, hA2, hm2, hc2⟩ : ∃ (A2 : Option Addr) (m2 c2 : Nat), A2 = none ∧ m2 = 0 ∧ c2 = 0 := ⟨_, _, _, rfl, rfl, rfl⟩
       obtain ⟨wq, hwq⟩ : ∃ wq, wq = wr.alloc (.cells #[.int .i64 0, .int .i64 0, .slice none 0 0] 95) := ⟨_, rfl⟩
       have hbq : Box wq wr.heap.size 95 [I G.kind, I G.num, .slice A2 m2 c2] := by rw [hwq, hG, hA2, hm2, hc2]; exact Box.new wr [I 0, I 0, .slice none 0 0] _
       have hxq : Ext wr wq := by rw [hwq]; exact (Ext.refl _).alloc _
       have hsq : Sl wq A2 m2 (G.args.map I) := by rw [hG, hA2, hm2]; exact Sl.nil _ _
       have hfk : F[k]? = some G := by rw [hG]; exact HFK.out
       have hgl : G.args.length = m2 := hsq.len
       have hml : m2 ≤ 16 := by omega
       have hov : ∀ Q, Ext wq Q → Calls Try.prog 56 #[gateV G.kind G.num A2 m2 c2] Q fun e w' => ∃ A' c', e = .returned (gateV G.kind G.num A' m2 c') ∧ w'.ownsRow Q.heap.size 3 1 (.slice A' m2 c') m2 (G.args.map I) ∧ Ext Q w' := fun Q hQ => own_any G.kind G.num A2 m2 c2 G.args Q (hsq.keep hQ.keeps) (by omega)
       have HWQ := Lib.hid hwq; have OW := Lib.hid hov; have HGL := Lib.hid hgl; have HFKG := Lib.hid hfk
       have HBXQ := Lib.hid (HBX.out.ext hxq); have HOGQ := Lib.hid (HOG.out.ext hxq); have HORQ := Lib.hid (own_ext HOR.out hxq); have HOOQ := Lib.hid (own_ext HOOO.out hxq); have HEQ := Lib.hid (HE.out.trans hxq)
       have G0 : Hid (wq.cell? ⟨wr.heap.size, 0, none⟩ = some (I G.kind)) := hbq.cell 0; have G1 : Hid (wq.cell? ⟨wr.heap.size, 1, none⟩ = some (I G.num)) := hbq.cell 1; have G2 : Hid (wq.cell? ⟨wr.heap.size, 2, none⟩ = some (.slice A2 m2 c2)) := hbq.cell 2
       have M1 : Hid (wq.cell? ⟨b7, 1, none⟩ = some (.slice A k c)) := HBXQ.out.cell 1
       have hcw := HXA.out.keeps _ _ hcv
       rw [HWA.out] at hcw
       clear hcv
       clear hG hwq hbq hxq hsq hfk hgl hov hA2 hm2 hc2
       go_wp2_with fail
       rw [← HWQ.out]
       clear hcw
       refine wp_flow4 5 3 [isV (.pointer (some ⟨b7, 1, none⟩)), isV (.slice A k c), isV (.agg #[I G.kind, I G.num, .slice A2 m2 c2]), fun v w => ∃ A c, v = .agg #[I G.kind, I G.num, .slice A m2 c] ∧ w.ownsRow wq.heap.size 3 1 (.slice A m2 c) m2 (G.args.map I), fun v w => ∃ b A c, v = .slice (some ⟨b, 0, none⟩) 1 1 ∧ Box w b 95 [I G.kind, I G.num, .slice A m2 c] ∧ w.ownsRow wq.heap.size 3 1 (.slice A m2 c) m2 (G.args.map I)] (by kernel_rfl) rfl rfl (by kernel_rfl) (by kernel_rfl) ⟨isV_mono, isV_mono, isV_mono, fun v w w' ⟨A, c, e, h⟩ hx => ⟨A, c, e, own_ext h hx⟩, fun v w w' ⟨b, A, c, e, h, k⟩ hx => ⟨b, A, c, e, h.ext hx, own_ext k hx⟩, trivial⟩ ?each ?rest
       case each =>
        refine .cons ?_ (.cons ?_ (.cons ?_ (.cons ?_ (.cons ?_ (.nil)))))
        ·intro fa fw hx hs hb
         have s7 : fa.tmps[(7 : Nat)]? = some (.pointer (some ⟨b7, 0, none⟩)) := (hb 7 (by kernel_rfl)).trans (by rfl)
         refine .inl ⟨wanted_free rfl, fun K hK => ?_⟩
         clear hs hb hx
         go_simp
         exact hK _ _ rfl (Ext.refl _)
        ·intro fa fw hx hs hb
         obtain ⟨_, s55, rfl⟩ := hs 0 55 (by kernel_rfl) (by kernel_rfl)
         have c0 := hx.keeps _ _ M1.out
         refine .inl ⟨wanted_free rfl, fun K hK => ?_⟩
         clear hs hb hx
         go_simp
         exact hK _ _ rfl (Ext.refl _)
        ·intro fa fw hx hs hb
         have s9 : fa.tmps[(9 : Nat)]? = some (.pointer (some ⟨wr.heap.size, 0, none⟩)) := (hb 9 (by kernel_rfl)).trans (by rfl)
         have c0 := hx.keeps _ _ G0.out
         have c1 := hx.keeps _ _ G1.out
         have c2 := hx.keeps _ _ G2.out
         refine .inl ⟨wanted_free rfl, fun K hK => ?_⟩
         clear hs hb hx
         go_simp
         exact hK _ _ rfl (Ext.refl _)
        ·intro fa fw hx hs hb
         obtain ⟨_, s57, rfl⟩ := hs 2 57 (by kernel_rfl) (by kernel_rfl)
         refine .inl ⟨wanted_free rfl, fun K hK => ?_⟩
         clear hs hb
         go_simp
         refine (OW.out fw hx).mono ?_
         rintro e w' ⟨A', c', rfl, ho, xq⟩
         exact hK _ _ ⟨A', c', rfl, own_base ho hx.size⟩ xq
        ·intro fa fw hx hs hb
         obtain ⟨_, s58, A58, c58, rfl, q58⟩ := hs 3 58 (by kernel_rfl) (by kernel_rfl)
         refine .inl ⟨wanted_free rfl, fun K hK => ?_⟩
         clear hs hb
         go_simp
         exact hK _ _ ⟨fw.heap.size, A58, c58, rfl, Box.new fw _ _, own_ext q58 ((Ext.refl fw).alloc _)⟩ ((Ext.refl _).alloc _)
       case rest =>
        intro w5 hxw5
        rintro _ rfl
        rintro _ rfl
        rintro _ rfl
        rintro _ ⟨A58, c58, rfl, q58⟩
        rintro _ ⟨b59, A59, c59, rfl, k59, q59⟩
        simp only [putAll, List.take, Act.put, List.setIfInBounds_toArray, List.set_cons_zero, List.set_cons_succ]
        obtain ⟨inf, hti, htz, hts1, hts2⟩ := info_parts tab_gate
        have hog5 := HOGQ.out.ext hxw5
        have hbx5 := HBXQ.out.ext hxw5
        refine wpAny_ready (rs := [5]) (by kernel_rfl) (by simp) (AllReady.cons rfl (fun KK hKK => ?_) AllReady.nil)
        refine step_append_lies _ rfl (.tmp 56) (.tmp 59) 36 rfl w2.heap.size 95 inf _ 3 40 Try.underlying36 hti htz hts1 hts2 rfl (by omega) (.slice A k c) k _ rfl (by have := hog5.row; rw [HLEN.out] at this; exact this) ⟨b59, 0, none⟩ 1 1 [I G.kind, I G.num, .slice A59 m2 c59] rfl rfl (fun j u hu => by rw [add_zero, k59.cell]; exact hu) (by simp [Value.oneCell']) (by omega) (by unfold maxLen; omega) (by omega) (HEQ.out.trans hxw5).size _ rfl ?_
        intro g6 cap6 w6 hown6 hgr6 _ _
        refine hKK _ _ ?_
        clear hKK KK
        have hog6 := HOGQ.out.push hxw5 HEQ.out.size (g := G) (v := .slice A59 m2 c59) (by rw [HGL.out]; exact q59) (by rw [HLEN.out]; exact hown6) hgr6
        have hrow : (Value.slice A k c).ownBlock ≠ some b7 := hbx5.apart hog5.row (by decide)
        have hbx6 := hbx5.kept hgr6 hrow
        have hor6 := (own_ext HORQ.out hxw5).kept hgr6 (own_types (own_ext HORQ.out hxw5) hog5.row (by decide))
        have hoo6 := (own_ext HOOQ.out hxw5).kept hgr6 (own_types (own_ext HOOQ.out hxw5) hog5.row (by decide))
        have hx6 : Ext w2 w6 := Below.grown (HEQ.out.trans hxw5) hgr6 (HEQ.out.trans hxw5).size (fun b hb => (hog5.row.lt b hb).1)
        have m1 := (hbx6.cell 1).trans rfl
        simp only [List.getElem?_cons_zero, List.getElem?_cons_succ] at m1
        have f6 := hbx6.free
        have HB6 := Lib.hid hbx6; have HG6 := Lib.hid hog6; have HR6 := Lib.hid hor6; have HO6 := Lib.hid hoo6; have HX6 := Lib.hid hx6
        clear hbx6 hog6 hor6 hoo6 hx6 hbx5 hog5 hrow hown6 hgr6 k59 q59 q58
        refine wpAny_ready (rs := [6]) (by kernel_rfl) (by simp) (AllReady.cons rfl (fun KK hKK => ?_) AllReady.nil)
        go_simp
        refine hKK _ _ ?_
        clear hKK KK
        refine wpAny_ready (rs := [7]) (by kernel_rfl) (by simp) (AllReady.cons rfl (fun KK hKK => ?_) AllReady.nil)
        go_simp
        refine hKK _ _ ?_
        clear hKK KK m1 f6
        refine wpAny_done (by kernel_rfl) ?_ _
        have HB7 := Lib.hid (HB6.out.set 1 (.slice (some ⟨g6, 0, none⟩) (k + 1) cap6)); have HG7 := Lib.hid (HG6.out.box HB6.out 1 (.slice (some ⟨g6, 0, none⟩) (k + 1) cap6))
        have HR7 := Lib.hid (own_set HR6.out (HB6.out.apart HR6.out (by decide)) 1 (.slice (some ⟨g6, 0, none⟩) (k + 1) cap6)); have HO7 := Lib.hid (own_set HO6.out (HB6.out.apart HO6.out (by decide)) 1 (.slice (some ⟨g6, 0, none⟩) (k + 1) cap6))
        have HX7 := Lib.hid (HX6.out.setCell (p := ⟨b7, 1, none⟩) H7.out (.slice (some ⟨g6, 0, none⟩) (k + 1) cap6))
        clear HB6 HG6 HR6 HO6 HX6
        go_wp2
        go_roundw
        case rel => exact ⟨k + 1, _, _, _, by omega, by go_num, HX7.out, HB7.out, by rw [take_snoc HFKG.out]; exact HG7.out, HR7.out, HO7.out⟩
        case measure => simp [intOf]; omega
      ·obtain ⟨G, hG⟩ : ∃ G : GateM, G = ⟨1, 0, []⟩ := ⟨_, rfl⟩
       obtain ⟨A2, m2, c2, hA2, hm2, hc2⟩ : ∃ (A2 : Option Addr) (m2 c2 : Nat), A2 = none ∧ m2 = 0 ∧ c2 = 0 := ⟨_, _, _, rfl, rfl, rfl⟩
       obtain ⟨wq, hwq⟩ : ∃ wq, wq = wr.alloc (.cells #[.int .i64 1, .int .i64 0, .slice none 0 0] 95) := ⟨_, rfl⟩
       have hbq : Box wq wr.heap.size 95 [I G.kind, I G.num, .slice A2 m2 c2] := by rw [hwq, hG, hA2, hm2, hc2]; exact Box.new wr [I 1, I 0, .slice none 0 0] _
       have hxq : Ext wr wq := by rw [hwq]; exact (Ext.refl _).alloc _
       have hsq : Sl wq A2 m2 (G.args.map I) := by rw [hG, hA2, hm2]; exact Sl.nil _ _
       have hfk : F[k]? = some G := by rw [hG]; exact HFK.out
       have hgl : G.args.length = m2 := hsq.len
       have hml : m2 ≤ 16 := by omega
       have hov : ∀ Q, Ext wq Q → Calls Try.prog 56 #[gateV G.kind G.num A2 m2 c2] Q fun e w' => ∃ A' c', e = .returned (gateV G.kind G.num A' m2 c') ∧ w'.ownsRow Q.heap.size 3 1 (.slice A' m2 c') m2 (G.args.map I) ∧ Ext Q w' := fun Q hQ => own_any G.kind G.num A2 m2 c2 G.args Q (hsq.keep hQ.keeps) (by omega)
       have HWQ := Lib.hid hwq; have OW := Lib.hid hov; have HGL := Lib.hid hgl; have HFKG := Lib.hid hfk
       have HBXQ := Lib.hid (HBX.out.ext hxq); have HOGQ := Lib.hid (HOG.out.ext hxq); have HORQ := Lib.hid (own_ext HOR.out hxq); have HOOQ := Lib.hid (own_ext HOOO.out hxq); have HEQ := Lib.hid (HE.out.trans hxq)
       have G0 : Hid (wq.cell? ⟨wr.heap.size, 0, none⟩ = some (I G.kind)) := hbq.cell 0; have G1 : Hid (wq.cell? ⟨wr.heap.size, 1, none⟩ = some (I G.num)) := hbq.cell 1; have G2 : Hid (wq.cell? ⟨wr.heap.size, 2, none⟩ = some (.slice A2 m2 c2)) := hbq.cell 2
       have M1 : Hid (wq.cell? ⟨b7, 1, none⟩ = some (.slice A k c)) := HBXQ.out.cell 1
       have hcw := HXA.out.keeps _ _ hcv
       rw [HWA.out] at hcw
       clear hcv
       clear hG hwq hbq hxq hsq hfk hgl hov hA2 hm2 hc2
       go_wp2_with fail
       rw [← HWQ.out]
       clear hcw
       refine wp_flow4 5 3 [isV (.pointer (some ⟨b7, 1, none⟩)), isV (.slice A k c), isV (.agg #[I G.kind, I G.num, .slice A2 m2 c2]), fun v w => ∃ A c, v = .agg #[I G.kind, I G.num, .slice A m2 c] ∧ w.ownsRow wq.heap.size 3 1 (.slice A m2 c) m2 (G.args.map I), fun v w => ∃ b A c, v = .slice (some ⟨b, 0, none⟩) 1 1 ∧ Box w b 95 [I G.kind, I G.num, .slice A m2 c] ∧ w.ownsRow wq.heap.size 3 1 (.slice A m2 c) m2 (G.args.map I)] (by kernel_rfl) rfl rfl (by kernel_rfl) (by kernel_rfl) ⟨isV_mono, isV_mono, isV_mono, fun v w w' ⟨A, c, e, h⟩ hx => ⟨A, c, e, own_ext h hx⟩, fun v w w' ⟨b, A, c, e, h, k⟩ hx => ⟨b, A, c, e, h.ext hx, own_ext k hx⟩, trivial⟩ ?each ?rest
       case each =>
        refine .cons ?_ (.cons ?_ (.cons ?_ (.cons ?_ (.cons ?_ (.nil)))))
        ·intro fa fw hx hs hb
         have s7 : fa.tmps[(7 : Nat)]? = some (.pointer (some ⟨b7, 0, none⟩)) := (hb 7 (by kernel_rfl)).trans (by rfl)
         refine .inl ⟨wanted_free rfl, fun K hK => ?_⟩
         clear hs hb hx
         go_simp
         exact hK _ _ rfl (Ext.refl _)
        ·intro fa fw hx hs hb
         obtain ⟨_, s55, rfl⟩ := hs 0 55 (by kernel_rfl) (by kernel_rfl)
         have c0 := hx.keeps _ _ M1.out
         refine .inl ⟨wanted_free rfl, fun K hK => ?_⟩
         clear hs hb hx
         go_simp
         exact hK _ _ rfl (Ext.refl _)
        ·intro fa fw hx hs hb
         have s9 : fa.tmps[(9 : Nat)]? = some (.pointer (some ⟨wr.heap.size, 0, none⟩)) := (hb 9 (by kernel_rfl)).trans (by rfl)
         have c0 := hx.keeps _ _ G0.out
         have c1 := hx.keeps _ _ G1.out
         have c2 := hx.keeps _ _ G2.out
         refine .inl ⟨wanted_free rfl, fun K hK => ?_⟩
         clear hs hb hx
         go_simp
         exact hK _ _ rfl (Ext.refl _)
        ·intro fa fw hx hs hb
         obtain ⟨_, s57, rfl⟩ := hs 2 57 (by kernel_rfl) (by kernel_rfl)
         refine .inl ⟨wanted_free rfl, fun K hK => ?_⟩
         clear hs hb
         go_simp
         refine (OW.out fw hx).mono ?_
         rintro e w' ⟨A', c', rfl, ho, xq⟩
         exact hK _ _ ⟨A', c', rfl, own_base ho hx.size⟩ xq
        ·intro fa fw hx hs hb
         obtain ⟨_, s58, A58, c58, rfl, q58⟩ := hs 3 58 (by kernel_rfl) (by kernel_rfl)
         refine .inl ⟨wanted_free rfl, fun K hK => ?_⟩
         clear hs hb
         go_simp
         exact hK _ _ ⟨fw.heap.size, A58, c58, rfl, Box.new fw _ _, own_ext q58 ((Ext.refl fw).alloc _)⟩ ((Ext.refl _).alloc _)
       case rest =>
        intro w5 hxw5
        rintro _ rfl
        rintro _ rfl
        rintro _ rfl
        rintro _ ⟨A58, c58, rfl, q58⟩
        rintro _ ⟨b59, A59, c59, rfl, k59, q59⟩
        simp only [putAll, List.take, Act.put, List.setIfInBounds_toArray, List.set_cons_zero, List.set_cons_succ]
        obtain ⟨inf, hti, htz, hts1, hts2⟩ := info_parts tab_gate
        have hog5 := HOGQ.out.ext hxw5
        have hbx5 := HBXQ.out.ext hxw5
        refine wpAny_ready (rs := [5]) (by kernel_rfl) (by simp) (AllReady.cons rfl (fun KK hKK => ?_) AllReady.nil)
        refine step_append_lies _ rfl (.tmp 56) (.tmp 59) 36 rfl w2.heap.size 95 inf _ 3 40 Try.underlying36 hti htz hts1 hts2 rfl (by omega) (.slice A k c) k _ rfl (by have := hog5.row; rw [HLEN.out] at this; exact this) ⟨b59, 0, none⟩ 1 1 [I G.kind, I G.num, .slice A59 m2 c59] rfl rfl (fun j u hu => by rw [add_zero, k59.cell]; exact hu) (by simp [Value.oneCell']) (by omega) (by unfold maxLen; omega) (by omega) (HEQ.out.trans hxw5).size _ rfl ?_
        intro g6 cap6 w6 hown6 hgr6 _ _
        refine hKK _ _ ?_
        clear hKK KK
        have hog6 := HOGQ.out.push hxw5 HEQ.out.size (g := G) (v := .slice A59 m2 c59) (by rw [HGL.out]; exact q59) (by rw [HLEN.out]; exact hown6) hgr6
        have hrow : (Value.slice A k c).ownBlock ≠ some b7 := hbx5.apart hog5.row (by decide)
        have hbx6 := hbx5.kept hgr6 hrow
        have hor6 := (own_ext HORQ.out hxw5).kept hgr6 (own_types (own_ext HORQ.out hxw5) hog5.row (by decide))
        have hoo6 := (own_ext HOOQ.out hxw5).kept hgr6 (own_types (own_ext HOOQ.out hxw5) hog5.row (by decide))
        have hx6 : Ext w2 w6 := Below.grown (HEQ.out.trans hxw5) hgr6 (HEQ.out.trans hxw5).size (fun b hb => (hog5.row.lt b hb).1)
        have m1 := (hbx6.cell 1).trans rfl
        simp only [List.getElem?_cons_zero, List.getElem?_cons_succ] at m1
        have f6 := hbx6.free
        have HB6 := Lib.hid hbx6; have HG6 := Lib.hid hog6; have HR6 := Lib.hid hor6; have HO6 := Lib.hid hoo6; have HX6 := Lib.hid hx6
        clear hbx6 hog6 hor6 hoo6 hx6 hbx5 hog5 hrow hown6 hgr6 k59 q59 q58
        refine wpAny_ready (rs := [6]) (by kernel_rfl) (by simp) (AllReady.cons rfl (fun KK hKK => ?_) AllReady.nil)
        go_simp
        refine hKK _ _ ?_
        clear hKK KK
        refine wpAny_ready (rs := [7]) (by kernel_rfl) (by simp) (AllReady.cons rfl (fun KK hKK => ?_) AllReady.nil)
        go_simp
        refine hKK _ _ ?_
        clear hKK KK m1 f6
        refine wpAny_done (by kernel_rfl) ?_ _
        have HB7 := Lib.hid (HB6.out.set 1 (.slice (some ⟨g6, 0, none⟩) (k + 1) cap6)); have HG7 := Lib.hid (HG6.out.box HB6.out 1 (.slice (some ⟨g6, 0, none⟩) (k + 1) cap6))
        have HR7 := Lib.hid (own_set HR6.out (HB6.out.apart HR6.out (by decide)) 1 (.slice (some ⟨g6, 0, none⟩) (k + 1) cap6)); have HO7 := Lib.hid (own_set HO6.out (HB6.out.apart HO6.out (by decide)) 1 (.slice (some ⟨g6, 0, none⟩) (k + 1) cap6))
        have HX7 := Lib.hid (HX6.out.setCell (p := ⟨b7, 1, none⟩) H7.out (.slice (some ⟨g6, 0, none⟩) (k + 1) cap6))
        clear HB6 HG6 HR6 HO6 HX6
        go_wp2
        go_roundw
        case rel => exact ⟨k + 1, _, _, _, by omega, by go_num, HX7.out, HB7.out, by rw [take_snoc HFKG.out]; exact HG7.out, HR7.out, HO7.out⟩
        case measure => simp [intOf]; omega
      ·obtain ⟨G, hG⟩ : ∃ G : GateM, G = g := ⟨_, rfl⟩
       obtain ⟨A2, m2, c2, hA2, hm2, hc2⟩ : ∃ (A2 : Option Addr) (m2 c2 : Nat), A2 = A' ∧ m2 = m' ∧ c2 = c' := ⟨_, _, _, rfl, rfl, rfl⟩
       obtain ⟨wq, hwq⟩ : ∃ wq, wq = wa := ⟨_, rfl⟩
       have hbq : Box wq wr.heap.size 95 [I G.kind, I G.num, .slice A2 m2 c2] := by rw [hwq, hG, hA2, hm2, hc2]; exact HBA.out
       have hxq : Ext wr wq := by rw [hwq]; exact HXA.out
       have hsq : Sl wq A2 m2 (G.args.map I) := by rw [hG, hA2, hm2]; exact HSG.out.keep hxq.keeps
       have hfk : F[k]? = some G := by rw [hG]; exact HFK.out
       have hgl : G.args.length = m2 := hsq.len
       have hml : m2 ≤ 16 := by have := HML.out; omega
       have hov : ∀ Q, Ext wq Q → Calls Try.prog 56 #[gateV G.kind G.num A2 m2 c2] Q fun e w' => ∃ A' c', e = .returned (gateV G.kind G.num A' m2 c') ∧ w'.ownsRow Q.heap.size 3 1 (.slice A' m2 c') m2 (G.args.map I) ∧ Ext Q w' := fun Q hQ => own_any G.kind G.num A2 m2 c2 G.args Q (hsq.keep hQ.keeps) (by omega)
       have HWQ := Lib.hid hwq; have OW := Lib.hid hov; have HGL := Lib.hid hgl; have HFKG := Lib.hid hfk
       have HBXQ := Lib.hid (HBX.out.ext hxq); have HOGQ := Lib.hid (HOG.out.ext hxq); have HORQ := Lib.hid (own_ext HOR.out hxq); have HOOQ := Lib.hid (own_ext HOOO.out hxq); have HEQ := Lib.hid (HE.out.trans hxq)
       have G0 : Hid (wq.cell? ⟨wr.heap.size, 0, none⟩ = some (I G.kind)) := hbq.cell 0; have G1 : Hid (wq.cell? ⟨wr.heap.size, 1, none⟩ = some (I G.num)) := hbq.cell 1; have G2 : Hid (wq.cell? ⟨wr.heap.size, 2, none⟩ = some (.slice A2 m2 c2)) := hbq.cell 2
       have M1 : Hid (wq.cell? ⟨b7, 1, none⟩ = some (.slice A k c)) := HBXQ.out.cell 1
       have hcw := HXA.out.keeps _ _ hcv
       rw [HWA.out] at hcw
       clear hcv
       clear hG hwq hbq hxq hsq hfk hgl hov hA2 hm2 hc2
       go_wp2_with fail
       rw [← HWA.out]
       rw [← HWQ.out]
       clear hcw
       refine wp_flow4 5 3 [isV (.pointer (some ⟨b7, 1, none⟩)), isV (.slice A k c), isV (.agg #[I G.kind, I G.num, .slice A2 m2 c2]), fun v w => ∃ A c, v = .agg #[I G.kind, I G.num, .slice A m2 c] ∧ w.ownsRow wq.heap.size 3 1 (.slice A m2 c) m2 (G.args.map I), fun v w => ∃ b A c, v = .slice (some ⟨b, 0, none⟩) 1 1 ∧ Box w b 95 [I G.kind, I G.num, .slice A m2 c] ∧ w.ownsRow wq.heap.size 3 1 (.slice A m2 c) m2 (G.args.map I)] (by kernel_rfl) rfl rfl (by kernel_rfl) (by kernel_rfl) ⟨isV_mono, isV_mono, isV_mono, fun v w w' ⟨A, c, e, h⟩ hx => ⟨A, c, e, own_ext h hx⟩, fun v w w' ⟨b, A, c, e, h, k⟩ hx => ⟨b, A, c, e, h.ext hx, own_ext k hx⟩, trivial⟩ ?each ?rest
       case each =>
        refine .cons ?_ (.cons ?_ (.cons ?_ (.cons ?_ (.cons ?_ (.nil)))))
        ·intro fa fw hx hs hb
         have s7 : fa.tmps[(7 : Nat)]? = some (.pointer (some ⟨b7, 0, none⟩)) := (hb 7 (by kernel_rfl)).trans (by rfl)
         refine .inl ⟨wanted_free rfl, fun K hK => ?_⟩
         clear hs hb hx
         go_simp
         exact hK _ _ rfl (Ext.refl _)
        ·intro fa fw hx hs hb
         obtain ⟨_, s55, rfl⟩ := hs 0 55 (by kernel_rfl) (by kernel_rfl)
         have c0 := hx.keeps _ _ M1.out
         refine .inl ⟨wanted_free rfl, fun K hK => ?_⟩
         clear hs hb hx
         go_simp
         exact hK _ _ rfl (Ext.refl _)
        ·intro fa fw hx hs hb
         have s9 : fa.tmps[(9 : Nat)]? = some (.pointer (some ⟨wr.heap.size, 0, none⟩)) := (hb 9 (by kernel_rfl)).trans (by rfl)
         have c0 := hx.keeps _ _ G0.out
         have c1 := hx.keeps _ _ G1.out
         have c2 := hx.keeps _ _ G2.out
         refine .inl ⟨wanted_free rfl, fun K hK => ?_⟩
         clear hs hb hx
         go_simp
         exact hK _ _ rfl (Ext.refl _)
        ·intro fa fw hx hs hb
         obtain ⟨_, s57, rfl⟩ := hs 2 57 (by kernel_rfl) (by kernel_rfl)
         refine .inl ⟨wanted_free rfl, fun K hK => ?_⟩
         clear hs hb
         go_simp
         refine (OW.out fw hx).mono ?_
         rintro e w' ⟨A', c', rfl, ho, xq⟩
         exact hK _ _ ⟨A', c', rfl, own_base ho hx.size⟩ xq
        ·intro fa fw hx hs hb
         obtain ⟨_, s58, A58, c58, rfl, q58⟩ := hs 3 58 (by kernel_rfl) (by kernel_rfl)
         refine .inl ⟨wanted_free rfl, fun K hK => ?_⟩
         clear hs hb
         go_simp
         exact hK _ _ ⟨fw.heap.size, A58, c58, rfl, Box.new fw _ _, own_ext q58 ((Ext.refl fw).alloc _)⟩ ((Ext.refl _).alloc _)
       case rest =>
        intro w5 hxw5
        rintro _ rfl
        rintro _ rfl
        rintro _ rfl
        rintro _ ⟨A58, c58, rfl, q58⟩
        rintro _ ⟨b59, A59, c59, rfl, k59, q59⟩
        simp only [putAll, List.take, Act.put, List.setIfInBounds_toArray, List.set_cons_zero, List.set_cons_succ]
        obtain ⟨inf, hti, htz, hts1, hts2⟩ := info_parts tab_gate
        have hog5 := HOGQ.out.ext hxw5
        have hbx5 := HBXQ.out.ext hxw5
        refine wpAny_ready (rs := [5]) (by kernel_rfl) (by simp) (AllReady.cons rfl (fun KK hKK => ?_) AllReady.nil)
        refine step_append_lies _ rfl (.tmp 56) (.tmp 59) 36 rfl w2.heap.size 95 inf _ 3 40 Try.underlying36 hti htz hts1 hts2 rfl (by omega) (.slice A k c) k _ rfl (by have := hog5.row; rw [HLEN.out] at this; exact this) ⟨b59, 0, none⟩ 1 1 [I G.kind, I G.num, .slice A59 m2 c59] rfl rfl (fun j u hu => by rw [add_zero, k59.cell]; exact hu) (by simp [Value.oneCell']) (by omega) (by unfold maxLen; omega) (by omega) (HEQ.out.trans hxw5).size _ rfl ?_
        intro g6 cap6 w6 hown6 hgr6 _ _
        refine hKK _ _ ?_
        clear hKK KK
        have hog6 := HOGQ.out.push hxw5 HEQ.out.size (g := G) (v := .slice A59 m2 c59) (by rw [HGL.out]; exact q59) (by rw [HLEN.out]; exact hown6) hgr6
        have hrow : (Value.slice A k c).ownBlock ≠ some b7 := hbx5.apart hog5.row (by decide)
        have hbx6 := hbx5.kept hgr6 hrow
        have hor6 := (own_ext HORQ.out hxw5).kept hgr6 (own_types (own_ext HORQ.out hxw5) hog5.row (by decide))
        have hoo6 := (own_ext HOOQ.out hxw5).kept hgr6 (own_types (own_ext HOOQ.out hxw5) hog5.row (by decide))
        have hx6 : Ext w2 w6 := Below.grown (HEQ.out.trans hxw5) hgr6 (HEQ.out.trans hxw5).size (fun b hb => (hog5.row.lt b hb).1)
        have m1 := (hbx6.cell 1).trans rfl
        simp only [List.getElem?_cons_zero, List.getElem?_cons_succ] at m1
        have f6 := hbx6.free
        have HB6 := Lib.hid hbx6; have HG6 := Lib.hid hog6; have HR6 := Lib.hid hor6; have HO6 := Lib.hid hoo6; have HX6 := Lib.hid hx6
        clear hbx6 hog6 hor6 hoo6 hx6 hbx5 hog5 hrow hown6 hgr6 k59 q59 q58
        refine wpAny_ready (rs := [6]) (by kernel_rfl) (by simp) (AllReady.cons rfl (fun KK hKK => ?_) AllReady.nil)
        go_simp
        refine hKK _ _ ?_
        clear hKK KK
        refine wpAny_ready (rs := [7]) (by kernel_rfl) (by simp) (AllReady.cons rfl (fun KK hKK => ?_) AllReady.nil)
        go_simp
        refine hKK _ _ ?_
        clear hKK KK m1 f6
        refine wpAny_done (by kernel_rfl) ?_ _
        have HB7 := Lib.hid (HB6.out.set 1 (.slice (some ⟨g6, 0, none⟩) (k + 1) cap6)); have HG7 := Lib.hid (HG6.out.box HB6.out 1 (.slice (some ⟨g6, 0, none⟩) (k + 1) cap6))
        have HR7 := Lib.hid (own_set HR6.out (HB6.out.apart HR6.out (by decide)) 1 (.slice (some ⟨g6, 0, none⟩) (k + 1) cap6)); have HO7 := Lib.hid (own_set HO6.out (HB6.out.apart HO6.out (by decide)) 1 (.slice (some ⟨g6, 0, none⟩) (k + 1) cap6))
        have HX7 := Lib.hid (HX6.out.setCell (p := ⟨b7, 1, none⟩) H7.out (.slice (some ⟨g6, 0, none⟩) (k + 1) cap6))
        clear HB6 HG6 HR6 HO6 HX6
        go_wp2
        go_roundw
        case rel => exact ⟨k + 1, _, _, _, by omega, by go_num, HX7.out, HB7.out, by rw [take_snoc HFKG.out]; exact HG7.out, HR7.out, HO7.out⟩
        case measure => simp [intOf]; omega
     ·obtain rfl : gn = k := by omega
      have ht : F.take gn = F := List.take_of_length_le (by rw [HFL.out]; exact Nat.le_refl _)
      rw [ht] at hog
      have hz := HZ2.out.ext hext
      have m0 := (hbx.cell 0).trans rfl; have m1 := (hbx.cell 1).trans rfl; have m2 := (hbx.cell 2).trans rfl; have m3 := (hbx.cell 3).trans rfl
      have n0 := (hz.cell 0).trans rfl; have n1 := (hz.cell 1).trans rfl; have n2 := (hz.cell 2).trans rfl; have n3 := (hz.cell 3).trans rfl
      simp only [List.getElem?_cons_zero, List.getElem?_cons_succ] at m0 m1 m2 m3 n0 n1 n2 n3
      have fz := hz.free
      have hzlt : (w.heap.size + 1) < w2.heap.size := HZ2.out.lt
      have hne : b7 ≠ w.heap.size + 1 := by have := H7.out; omega
      obtain ⟨w9, hw9⟩ : ∃ w9, w9 = (((wr.setCell ⟨w.heap.size + 1, 0, none⟩ (I m)).setCell ⟨w.heap.size + 1, 1, none⟩ (.slice A gn c)).setCell ⟨w.heap.size + 1, 2, none⟩ (.slice A36 rn c36)).setCell ⟨w.heap.size + 1, 3, none⟩ (.slice B36 on d36) := ⟨_, rfl⟩
      have hk9 : Box w9 (w.heap.size + 1) 39 [I m, .slice A gn c, .slice A36 rn c36, .slice B36 on d36] := by rw [hw9]; exact (((hz.set 0 (I m)).set 1 (.slice A gn c)).set 2 (.slice A36 rn c36)).set 3 (.slice B36 on d36)
      have ar := hz.apart hor (by decide); have ao := hz.apart hoo (by decide)
      have hr9 : w9.ownsRow w2.heap.size 79 2 (.slice A36 rn c36) rn (storeCs N.regs) := by rw [hw9]; exact own_set (own_set (own_set (own_set hor ar _ _) ar _ _) ar _ _) ar _ _
      have ho9 : w9.ownsRow w2.heap.size 3 1 (.slice B36 on d36) on (N.outs.map I) := by rw [hw9]; exact own_set (own_set (own_set (own_set hoo ao _ _) ao _ _) ao _ _) ao _ _
      have hg9 : OwnG w9 w2.heap.size (.slice A gn c) F vs := by
       rw [hw9]
       exact (((hog.box hz 0 (I m)).box (hz.set 0 (I m)) 1 (.slice A gn c)).box ((hz.set 0 (I m)).set 1 (.slice A gn c)) 2 (.slice A36 rn c36)).box (((hz.set 0 (I m)).set 1 (.slice A gn c)).set 2 (.slice A36 rn c36)) 3 (.slice B36 on d36)
      have hx9 : Ext w w9 := by
       have h0 : Ext w wr := (HX.out.trans X2.out).trans hext
       rw [hw9]; exact (((h0.setCell (p := ⟨w.heap.size + 1, 0, none⟩) (Nat.le_succ _) _).setCell (p := ⟨w.heap.size + 1, 1, none⟩) (Nat.le_succ _) _).setCell (p := ⟨w.heap.size + 1, 2, none⟩) (Nat.le_succ _) _).setCell (p := ⟨w.heap.size + 1, 3, none⟩) (Nat.le_succ _) _
      have hno : NetO w9 w2.heap.size m A gn c A36 rn c36 B36 on d36 (foldN N) vs := ⟨HIN.out, by rw [← HF.out]; exact HFL.out, by rw [← HF.out]; exact hg9, hr9, ho9⟩
      have HNO := Lib.hid hno; have HX9 := Lib.hid hx9; have HK9 := Lib.hid hk9; have HW9 := Lib.hid hw9
      clear hog hbx hor hoo hz ht hw9 hk9 ar ao hr9 ho9 hg9 hx9 hno hext hzlt
      go_wp2
      rw [← HW9.out]
      refine bodyPost_ret (v := Pr (netV m A gn c A36 rn c36 B36 on d36) (I 0)) ?_ rfl ⟨m, A, gn, c, A36, rn, c36, B36, on, d36, vs, rfl, HNO.out.base_le (HX.out.trans X2.out).size, HX9.out⟩
      have q0 := (HK9.out.cell 0).trans rfl; have q1 := (HK9.out.cell 1).trans rfl; have q2 := (HK9.out.cell 2).trans rfl; have q3 := (HK9.out.cell 3).trans rfl
      simp only [List.getElem?_cons_zero, List.getElem?_cons_succ] at q0 q1 q2 q3
      clear HNO HX9 HK9 HW9 m0 m1 m2 m3 n0 n1 n2 n3 fz
      simp [results, Try.results20, go_sem, q0, q1, q2, q3]
 ·have hFR : foldR N = zeroN := by unfold foldR; rw [if_neg hc]
  rw [hFR]
  have hnz : (checkN N != 0) = true := by simpa using hc
  have hck := netCheck_any i GA gn gc RA rn rc OA on oc N W HN.out
  generalize checkN N = E at *
  have CK := Lib.hid hck
  clear hc hgl hrl hol hin hck hFR
  go_enter Try.func20, Try.ntmps20
  go_wp2_with fail
  rw [← HW.out]
  refine CK.out.mono ?_; rintro e w1 ⟨rfl, x1⟩
  have hz := HZ.out.ext x1
  have n0 := (hz.cell 0).trans rfl; have n1 := (hz.cell 1).trans rfl; have n2 := (hz.cell 2).trans rfl; have n3 := (hz.cell 3).trans rfl
  simp only [List.getElem?_cons_zero, List.getElem?_cons_succ] at n0 n1 n2 n3
  have fz := hz.free
  obtain ⟨w9, hw9⟩ : ∃ w9, w9 = (((w1.setCell ⟨w.heap.size + 1, 0, none⟩ (I 0)).setCell ⟨w.heap.size + 1, 1, none⟩ (.slice none 0 0)).setCell ⟨w.heap.size + 1, 2, none⟩ (.slice none 0 0)).setCell ⟨w.heap.size + 1, 3, none⟩ (.slice none 0 0) := ⟨_, rfl⟩
  have hk9 : Box w9 (w.heap.size + 1) 39 [I 0, .slice none 0 0, .slice none 0 0, .slice none 0 0] := by rw [hw9]; exact (((hz.set 0 (I 0)).set 1 (.slice none 0 0)).set 2 (.slice none 0 0)).set 3 (.slice none 0 0)
  have hx9 : Ext w w9 := by
   have h0 : Ext w w1 := HX.out.trans x1
   rw [hw9]; exact (((h0.setCell (p := ⟨w.heap.size + 1, 0, none⟩) (Nat.le_succ _) _).setCell (p := ⟨w.heap.size + 1, 1, none⟩) (Nat.le_succ _) _).setCell (p := ⟨w.heap.size + 1, 2, none⟩) (Nat.le_succ _) _).setCell (p := ⟨w.heap.size + 1, 3, none⟩) (Nat.le_succ _) _
  have HX9 := Lib.hid hx9; have HK9 := Lib.hid hk9; have HW9 := Lib.hid hw9
  clear hz hw9 hk9 hx9 x1 CK
  go_wp2
  rw [← HW9.out]
  refine bodyPost_ret (v := Pr (netV 0 none 0 0 none 0 0 none 0 0) (I E)) ?_ rfl ⟨0, none, 0, 0, none, 0, 0, none, 0, 0, [], rfl, NetO.zero _ _, HX9.out⟩
  have q0 := (HK9.out.cell 0).trans rfl; have q1 := (HK9.out.cell 1).trans rfl; have q2 := (HK9.out.cell 2).trans rfl; have q3 := (HK9.out.cell 3).trans rfl
  simp only [List.getElem?_cons_zero, List.getElem?_cons_succ] at q0 q1 q2 q3
  clear HX9 HK9 HW9 n0 n1 n2 n3 fz
  simp [results, Try.results20, go_sem, q0, q1, q2, q3]
end
end Go.Proofs.Ytlafiddfplhafaa
/- append of all of a slice onto an own row: the run, and the step of a region that draws. -/
namespace Go.Proofs.Ytlafiddfplhafaa
set_option linter.unusedVariables false
set_option linter.unusedSimpArgs false
open Go.RowKit
end Go.Proofs.Ytlafiddfplhafaa
/- append onto an own row of no room, at a step of a region that draws. -/
namespace Go.Proofs.Ytlafiddfplhafaa
set_option linter.unusedVariables false
set_option linter.unusedSimpArgs false
open Go.RowKit
end Go.Proofs.Ytlafiddfplhafaa
/- KeptOf, by the reference: where each gate goes. -/
namespace Go.Proofs.Ytlafiddfplhafaa
set_option linter.unusedVariables false
set_option linter.unusedSimpArgs false
open Go.RowKit
theorem cnt_next {l : List Bool} {k : Nat} {b : Bool} (h : l[k]? = some b) : cnt (l.take (k + 1)) = cnt (l.take k) + (if b then 1 else 0) := by
  rw [List.take_add_one, h]
  unfold cnt
  cases b <;> simp
theorem cnt_len (l : List Bool) : cnt l ≤ l.length := List.countP_le_length
section
variable (i : Int) (GA : Option Addr) (gn gc : Nat) (RA : Option Addr) (rn rc : Nat) (OA : Option Addr) (on oc : Nat) (N : NetM) (w : World)
end
end Go.Proofs.Ytlafiddfplhafaa
/- What stands in memory while Drop turns the numbers of its new net. -/
namespace Go.Proofs.Ytlafiddfplhafaa
set_option linter.unusedVariables false
set_option linter.unusedSimpArgs false
open Go.RowKit
structure DropW (w2 : World) (b7 mb mn : Nat) (mf : Int → Int) (i : Int) (A : Option Addr) (dn c : Nat) (R : Option Addr) (rn rd : Nat) (O : Option Addr) (on od : Nat) (VS : List Value) (wr : World) (G : List GateM) (Rg : List StoreM) (Ou : List Int) : Prop where
  ext : Ext w2 wr
  box : Box wr b7 39 [I i, .slice A dn c, .slice R rn rd, .slice O on od]
  gates : OwnG wr w2.heap.size (.slice A dn c) G VS
  regs : wr.ownsRow w2.heap.size 79 2 (.slice R rn rd) rn (storeCs Rg)
  outs : wr.ownsRow w2.heap.size 3 1 (.slice O on od) on (Ou.map I)
  map : MapI wr mb mn mf
  ap : ∀ v ∈ VS, ∀ ob, O = some ⟨ob, 0, none⟩ → v.ownBlock ≠ some ob
section
variable {w2 : World} {b7 mb mn : Nat} {mf : Int → Int} {i : Int} {A : Option Addr} {dn c : Nat} {R : Option Addr} {rn rd : Nat} {O : Option Addr} {on od : Nat} {VS : List Value} {wr wr' : World} {G : List GateM} {Rg : List StoreM} {Ou : List Int}
theorem DropW.more (h : DropW w2 b7 mb mn mf i A dn c R rn rd O on od VS wr G Rg Ou) (hx : Ext wr wr') : DropW w2 b7 mb mn mf i A dn c R rn rd O on od VS wr' G Rg Ou :=
  ⟨h.ext.trans hx, h.box.ext hx, h.gates.ext hx, own_ext h.regs hx, own_ext h.outs hx, h.map.ext hx, h.ap⟩
theorem DropW.arg (h : DropW w2 b7 mb mn mf i A dn c R rn rd O on od VS wr G Rg Ou) {k ab m d : Nat} {g : GateM} (hg : G[k]? = some g) (hv : VS[k]? = some (.slice (some ⟨ab, 0, none⟩) m d)) (j : Nat) (x : Int) :
    DropW w2 b7 mb mn mf i A dn c R rn rd O on od VS (wr.setCell ⟨ab, j, none⟩ (I x)) (G.set k ⟨g.kind, g.num, g.args.set j x⟩) Rg Ou := by
  have h1 := h.gates.own k _ g hv hg
  have hge : w2.heap.size ≤ ab := (h1.lt ab rfl).1
  have hnb : b7 ≠ ab := fun e => h.box.apart h1 (by decide) (by simp [Value.ownBlock, e])
  have hmb : ab ≠ mb := fun e => h.map.ne_row h1 (by simp [Value.ownBlock, e])
  have hr : (Value.slice R rn rd).ownBlock ≠ some ab := by
    rcases own_types h.regs h1 (by decide) with q | q
    · rw [q]; intro hh; cases hh
    · simpa [Value.ownBlock] using q
  have ho : (Value.slice O on od).ownBlock ≠ some ab := by
    intro e
    rcases h.outs.2 with ⟨e1, _⟩ | ⟨g', cap, cur, e1, _⟩
    · rw [e1] at e; cases e
    · have eO : O = some ⟨g', 0, none⟩ := by injection e1
      subst eO
      have e3 : g' = ab := by simpa [Value.ownBlock] using e
      subst e3
      exact h.ap _ (List.mem_of_getElem? hv) g' rfl (by simp [Value.ownBlock])
  exact ⟨h.ext.setCell (p := ⟨ab, j, none⟩) hge _, h.box.kept (grownBy_set wr ab j _) (by simpa using fun e => hnb e.symm), h.gates.setArg hg hv j x, own_set h.regs hr _ _, own_set h.outs ho _ _, h.map.set hmb j _, h.ap⟩
theorem DropW.reg {rb : Nat} (h : DropW w2 b7 mb mn mf i A dn c (some ⟨rb, 0, none⟩) rn rd O on od VS wr G Rg Ou) {k : Nat} {r : StoreM} (hr : Rg[k]? = some r) (x : Int) :
    DropW w2 b7 mb mn mf i A dn c (some ⟨rb, 0, none⟩) rn rd O on od VS (wr.setCell ⟨rb, k * 2 + 1, none⟩ (I x)) G (Rg.set k ⟨r.fst, x⟩) Ou := by
  have hge : w2.heap.size ≤ rb := (h.regs.lt rb rfl).1
  have hnb : b7 ≠ rb := fun e => h.box.apart h.regs (by decide) (by simp [Value.ownBlock, e])
  have hmb : rb ≠ mb := fun e => h.map.ne_row h.regs (by simp [Value.ownBlock, e])
  have ho : (Value.slice O on od).ownBlock ≠ some rb := by
    rcases own_types h.outs h.regs (by decide) with q | q
    · rw [q]; intro hh; cases hh
    · simpa [Value.ownBlock] using q
  refine ⟨h.ext.setCell (p := ⟨rb, _, none⟩) hge _, h.box.kept (grownBy_set wr rb _ _) (by simpa using fun e => hnb e.symm), h.gates.reg h.regs _ _, ?_, own_set h.outs ho _ _, h.map.set hmb _ _, h.ap⟩
  rw [← storeCs_set Rg k r x hr]
  exact (h.regs.stored (k * 2 + 1) (I x)).1
theorem DropW.out {ob : Nat} (h : DropW w2 b7 mb mn mf i A dn c R rn rd (some ⟨ob, 0, none⟩) on od VS wr G Rg Ou) (k : Nat) (x : Int) :
    DropW w2 b7 mb mn mf i A dn c R rn rd (some ⟨ob, 0, none⟩) on od VS (wr.setCell ⟨ob, k, none⟩ (I x)) G Rg (Ou.set k x) := by
  have hge : w2.heap.size ≤ ob := (h.outs.lt ob rfl).1
  have hnb : b7 ≠ ob := fun e => h.box.apart h.outs (by decide) (by simp [Value.ownBlock, e])
  have hmb : ob ≠ mb := fun e => h.map.ne_row h.outs (by simp [Value.ownBlock, e])
  have hr : (Value.slice R rn rd).ownBlock ≠ some ob := by
    rcases own_types h.regs h.outs (by decide) with q | q
    · rw [q]; intro hh; cases hh
    · simpa [Value.ownBlock] using q
  refine ⟨h.ext.setCell (p := ⟨ob, _, none⟩) hge _, h.box.kept (grownBy_set wr ob _ _) (by simpa using fun e => hnb e.symm), h.gates.out h.outs (fun v hv => h.ap v hv ob rfl) _ _, own_set h.regs hr _ _, ?_, h.map.set hmb _ _, h.ap⟩
  rw [List.map_set]
  exact (h.outs.stored k (I x)).1
end
/-- The map that Drop fills: where each gate goes that stays. -/
def MapTo (N : NetM) (k : Nat) (mf : Int → Int) : Prop := ∀ j : Nat, j < k → (isM N)[j]? = some true → mf j = (cnt ((isM N).take j) : Nat)
theorem MapTo.next {N : NetM} {k : Nat} {mf : Int → Int} (h : MapTo N k mf) : MapTo N (k + 1) (fun j => if j = (k : Int) then ((cnt ((isM N).take k) : Nat) : Int) else mf j) := by
  intro j hj ht
  by_cases e : j = k
  · subst e; simp
  · have : ¬ ((j : Int) = (k : Int)) := by omega
    simp only [this, if_false]
    exact h j (by omega) ht
theorem MapTo.skip {N : NetM} {k : Nat} {mf : Int → Int} (h : MapTo N k mf) (hf : (isM N)[k]? = some false) : MapTo N (k + 1) mf := by
  intro j hj ht
  by_cases e : j = k
  · subst e; rw [hf] at ht; cases ht
  · exact h j (by omega) ht
theorem MapTo.to {N : NetM} {mf : Int → Int} (h : MapTo N N.gates.length mf) {a : Int} (ha : onI (isM N) a = true) (h0 : 0 ≤ a) : mf a = valI (toM N) a := by
  have ht := on_at ha
  have hk : a.toNat < N.gates.length := by rw [← is_len]; exact (List.getElem?_eq_some_iff.1 ht).1
  rw [to_at ha, ← h a.toNat hk ht]
  congr 1; omega
def regD (N : NetM) (r : StoreM) : StoreM := ⟨r.fst, valI (toM N) r.next⟩
end Go.Proofs.Ytlafiddfplhafaa
/- OwnNet and FoldOf, by the reference. -/
namespace Go.Proofs.Ytlafiddfplhafaa
set_option linter.unusedVariables false
set_option linter.unusedSimpArgs false
open Go.RowKit
section
variable (i : Int) (GA : Option Addr) (gn gc : Nat) (RA : Option Addr) (rn rc : Nat) (OA : Option Addr) (on oc : Nat) (N : NetM) (w : World)
end
end Go.Proofs.Ytlafiddfplhafaa
