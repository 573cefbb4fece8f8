/- Fold, by the program. -/
import Derived.Test.YtjagbnaacfhokaaSw12
import Derived.Test.YtjagbnaacfhokaaSw06
import Derived.Test.YtjagbnaacfhokaaSw07
import Derived.Maps.OwnSet
import Derived.Maps.Views
import Derived.Maps.OwnOps
import Derived.Test.YtjagbnaacfhokaaChecked
import Derived.Test.YtjagbnaacfhokaaSw01
namespace Go.Proofs.Ytjagbnaacfhokaa
set_option linter.unusedVariables false
set_option linter.unusedSimpArgs false
open Go.RowKit

section
variable (i : Int) (GA : Option Addr) (gn gc : Nat) (RA : Option Addr) (rn rc : Nat) (OA : Option Addr) (on oc : Nat) (N : NetM) (w : World)
set_option maxRecDepth 100000 in
set_option maxHeartbeats 8000000 in
theorem fold_any (h : NetC w i GA gn gc RA rn rc OA on oc N) :
    Calls Try.prog 59 #[netV i GA gn gc RA rn rc OA on oc] w fun e w' => NetRes w w' w.heap.size e (checkN N) (foldR N) := by
  have hgl : N.gates.length = gn := h.gates.1
  have hrl : N.regs.length = rn := h.regs.1
  have hol : N.outs.length = on := h.outs.len
  have hin := h.ins
  obtain ⟨W0, hW0⟩ : ∃ W, W = w.alloc (.cells #[I i, .slice GA gn gc, .slice RA rn rc, .slice OA on oc] 26) := ⟨_, rfl⟩
  have hx0 : Ext w W0 := by rw [hW0]; exact (Ext.refl _).alloc _
  obtain ⟨W, hW⟩ : ∃ W, W = W0.alloc (.cells #[I 0, .slice none 0 0, .slice none 0 0, .slice none 0 0] 26) := ⟨_, rfl⟩
  have hx1 : Ext W0 W := by rw [hW]; exact (Ext.refl _).alloc _
  have hs0 : W0.heap.size = w.heap.size + 1 := by rw [hW0]; simp
  have hbox : NetBox W w.heap.size i GA gn gc RA rn rc OA on oc := by
    have : NetBox W0 w.heap.size i GA gn gc RA rn rc OA on oc := by rw [hW0]; exact NetBox.new w i GA gn gc RA rn rc OA on oc _
    exact this.keep hx1.keeps
  have hz : Box W (w.heap.size + 1) 26 [I 0, .slice none 0 0, .slice none 0 0, .slice none 0 0] := by rw [← hs0, hW]; exact Box.new W0 _ _
  have HN := Lib.hid (h.keep (hx0.trans hx1).keeps); have HBox := Lib.hid hbox; have HX := Lib.hid (hx0.trans hx1); have HZ := Lib.hid hz
  have HW : Hid (W = (w.alloc (.cells #[I i, .slice GA gn gc, .slice RA rn rc, .slice OA on oc] 26)).alloc (.cells #[I 0, .slice none 0 0, .slice none 0 0, .slice none 0 0] 26)) := by unfold Hid; rw [hW, hW0]
  clear h hW0 hx0 hW hx1 hs0 hbox hz
  by_cases hc : checkN N = 0
  · have ok := checkN_ok hc
    have hFR : foldR N = foldN N := by unfold foldR; rw [if_pos hc]
    rw [hFR, hc]
    have ak := opens_asked ok
    rw [hrl] at ak
    obtain ⟨m, rfl⟩ : ∃ m : Nat, i = m := ⟨i.toNat, by have := ok.ins0; omega⟩
    have hm : N.ins.toNat = m := by omega
    have hm3 : m ≤ 3 := by have := ok.ins3; omega
    have hr20 : rn ≤ 20 := by have := ok.rl; omega
    have ho3 : on ≤ 3 := by have := ok.ol; omega
    have hg200 : gn ≤ 200 := by have := ok.gl; omega
    rw [hm] at ak
    have hV : foldV N = settledM N.gates (opensM rn) (opensM m) := by unfold foldV; rw [hrl, hm]
    have hVl : (foldV N).length = gn := by rw [foldV_len, hgl]
    have hVg := foldV_good N
    obtain ⟨F, hF⟩ : ∃ F, F = (foldN N).gates := ⟨_, rfl⟩
    have hFl : F.length = gn := by rw [hF, foldN_len, hgl]
    have hFat : ∀ (k : Nat) g, N.gates[k]? = some g → F[k]? = some (foldG g (valI (foldV N) k)) := fun k g hg => by rw [hF]; exact foldGs_at N.gates (foldV N) k g (foldV_len N).symm hg
    generalize hVV : foldV N = V at *
    have HV := Lib.hid hV; have HVL := Lib.hid hVl; have HVG := Lib.hid hVg; have HFA := Lib.hid hFat; have HFL := Lib.hid hFl; have HF := Lib.hid hF
    have HC := Lib.hid hc; have AK := Lib.hid ak; have HOK := Lib.hid ok; have HIN := Lib.hid hin
    clear hc ok ak hV hVl hVg hF hFl hFat hFR hVV hgl hrl hol hin hm
    go_enter Try.func59, Try.ntmps59
    go_wp2_with fail
    rw [← HW.out]
    refine (netCheck_any m GA gn gc RA rn rc OA on oc N W HN.out).mono ?_; rintro e w1 ⟨rfl, x1⟩; rw [HC.out]
    have hbx := HBox.out.keep x1.keeps
    have NN := Lib.hid (HN.out.keep x1.keeps)
    have B0 : Hid (w1.cell? ⟨w.heap.size, 0, none⟩ = some (I m)) := hbx.1
    have B1 : Hid (w1.cell? ⟨w.heap.size, 1, none⟩ = some (.slice GA gn gc)) := hbx.2.1
    have B2 : Hid (w1.cell? ⟨w.heap.size, 2, none⟩ = some (.slice RA rn rc)) := hbx.2.2.1
    have B3 : Hid (w1.cell? ⟨w.heap.size, 3, none⟩ = some (.slice OA on oc)) := hbx.2.2.2
    have X1 := Lib.hid x1
    clear x1 hbx
    have hst : ∀ Q (A5 : Option Addr) (c5 : Nat) (B5 : Option Addr) (d5 : Nat), Ext w1 Q → Sl Q A5 rn ((opensM rn).map I) → Sl Q B5 m ((opensM m).map I) → Calls Try.prog 76 #[netV m GA gn gc RA rn rc OA on oc, handV A5 rn c5 B5 m d5] Q fun e w' => ∃ v, e = .returned v ∧ w'.ownsRow Q.heap.size 3 1 v gn (V.map I) ∧ Ext Q w' := fun Q A5 c5 B5 d5 hQ h1 h2 => by
      rw [HV.out]; exact settle_any m GA gn gc RA rn rc OA on oc N A5 rn c5 B5 m d5 _ _ Q (NN.out.keep hQ.keeps) h1 h2 AK.out
    have hop : ∀ Q (k : Nat), k ≤ 20 → Calls Try.prog 103 #[I k] Q fun e w' => ∃ v, e = .returned v ∧ w'.ownsRow Q.heap.size 3 1 v k ((opensM k).map I) ∧ Ext Q w' := fun Q k hk => fold1_any k Q hk
    have hcs : ∀ Q, Ext w1 Q → Calls Try.prog 105 #[.slice RA rn rc] Q fun e w' => ∃ v, e = .returned v ∧ w'.ownsRow Q.heap.size 78 2 v rn (storeCs N.regs) ∧ Ext Q w' := fun Q hQ => cloneStores_any RA rn rc N.regs Q (NN.out.regs.keep hQ.keeps) (by omega)
    have hci : ∀ Q, Ext w1 Q → Calls Try.prog 106 #[.slice OA on oc] Q fun e w' => ∃ v, e = .returned v ∧ w'.ownsRow Q.heap.size 3 1 v on (N.outs.map I) ∧ Ext Q w' := fun Q hQ => cloneInts_any OA on oc N.outs Q (NN.out.outs.keep hQ.keeps) (by omega)
    have ST := Lib.hid hst; have OP := Lib.hid hop; have CS := Lib.hid hcs; have CI := Lib.hid hci
    clear hst hop hcs hci
    go_wp2_with fail
    refine wp_flow3 13 0 [isV (.agg #[.int .i64 m, .slice GA gn gc, .slice RA rn rc, .slice OA on oc]), isV (.func (.func 103) #[] #[]), isV (.pointer (some ⟨w.heap.size, 2, none⟩)), isV (.slice RA rn rc), isV (.int .i64 rn), fun v w => ∃ A c, v = .slice A rn c ∧ w.ownsRow w1.heap.size 3 1 (.slice A rn c) rn ((opensM rn).map I), isV (.func (.func 103) #[] #[]), isV (.pointer (some ⟨w.heap.size, 0, none⟩)), isV (.int .i64 m), fun v w => ∃ A c, v = .slice A m c ∧ w.ownsRow w1.heap.size 3 1 (.slice A m c) m ((opensM m).map I), fun v w => ∃ A c B d, v = .agg #[.slice A rn c, .slice B m d] ∧ w.ownsRow w1.heap.size 3 1 (.slice A rn c) rn ((opensM rn).map I) ∧ w.ownsRow w1.heap.size 3 1 (.slice B m d) m ((opensM m).map I), fun v w => ∃ A c, v = .slice A gn c ∧ w.ownsRow w1.heap.size 3 1 (.slice A gn c) gn (V.map I), fun v w => ∃ A c, v = .slice A gn c ∧ w.ownsRow w1.heap.size 3 1 (.slice A gn c) gn (V.map I)] (by kernel_rfl) rfl rfl (by kernel_rfl) (by kernel_rfl) ⟨isV_mono, isV_mono, isV_mono, isV_mono, isV_mono, fun v w w' ⟨A, c, e, h⟩ hx => ⟨A, c, e, own_ext h hx⟩, isV_mono, isV_mono, isV_mono, fun v w w' ⟨A, c, e, h⟩ hx => ⟨A, c, e, own_ext h hx⟩, fun v w w' ⟨A, c, B, d, e, h, k⟩ hx => ⟨A, c, B, d, e, own_ext h hx, own_ext k hx⟩, fun v w w' ⟨A, c, e, h⟩ hx => ⟨A, c, e, own_ext h hx⟩, fun v w w' ⟨A, c, e, h⟩ hx => ⟨A, c, e, own_ext h hx⟩, trivial⟩ ?each ?rest
    case each =>
      refine .cons ?_ (.cons ?_ (.cons ?_ (.cons ?_ (.cons ?_ (.cons ?_ (.cons ?_ (.cons ?_ (.cons ?_ (.cons ?_ (.cons ?_ (.cons ?_ (.cons ?_ (.nil)))))))))))))
      · intro fa fw hx hs hb
        have s1 : fa.tmps[(1 : Nat)]? = some (.pointer (some ⟨w.heap.size, 0, none⟩)) := (hb 1 (by kernel_rfl)).trans (by rfl)
        have c0 := hx.keeps _ _ B0.out
        have c1 := hx.keeps _ _ B1.out
        have c2 := hx.keeps _ _ B2.out
        have c3 := hx.keeps _ _ B3.out
        refine .inl ⟨wanted_free rfl, fun K hK => ?_⟩
        clear hs hb hx
        go_simp
        exact hK _ _ rfl (Ext.refl _)
      · intro fa fw hx hs hb
        have s5 : fa.tmps[(5 : Nat)]? = some (.func (.func 103) #[] #[]) := (hb 5 (by kernel_rfl)).trans (by rfl)
        refine .inl ⟨wanted_free rfl, fun K hK => ?_⟩
        clear hs hb hx
        go_simp
        exact hK _ _ rfl (Ext.refl _)
      · intro fa fw hx hs hb
        have s1 : fa.tmps[(1 : Nat)]? = some (.pointer (some ⟨w.heap.size, 0, none⟩)) := (hb 1 (by kernel_rfl)).trans (by rfl)
        refine .inl ⟨wanted_free rfl, fun K hK => ?_⟩
        clear hs hb hx
        go_simp
        exact hK _ _ rfl (Ext.refl _)
      · intro fa fw hx hs hb
        obtain ⟨_, s18, rfl⟩ := hs 2 18 (by kernel_rfl) (by kernel_rfl)
        have c0 := hx.keeps _ _ B2.out
        refine .inl ⟨wanted_free rfl, fun K hK => ?_⟩
        clear hs hb hx
        go_simp
        exact hK _ _ rfl (Ext.refl _)
      · intro fa fw hx hs hb
        obtain ⟨_, s19, rfl⟩ := hs 3 19 (by kernel_rfl) (by kernel_rfl)
        refine .inl ⟨wanted_free rfl, fun K hK => ?_⟩
        clear hs hb
        go_simp
        exact hK _ _ rfl (Ext.refl _)
      · intro fa fw hx hs hb
        obtain ⟨_, s17, rfl⟩ := hs 1 17 (by kernel_rfl) (by kernel_rfl)
        obtain ⟨_, s20, rfl⟩ := hs 4 20 (by kernel_rfl) (by kernel_rfl)
        refine .inl ⟨wanted_free rfl, fun K hK => ?_⟩
        clear hs hb
        go_simp
        refine (OP.out fw rn (by omega)).mono ?_
        rintro e w' ⟨r0, rfl, ho, xq⟩
        obtain ⟨Aq, cq, rfl, -, -, -⟩ := own_sl ho
        exact hK _ _ ⟨Aq, cq, rfl, own_base ho hx.size⟩ xq
      · intro fa fw hx hs hb
        have s5 : fa.tmps[(5 : Nat)]? = some (.func (.func 103) #[] #[]) := (hb 5 (by kernel_rfl)).trans (by rfl)
        refine .inl ⟨wanted_free rfl, fun K hK => ?_⟩
        clear hs hb hx
        go_simp
        exact hK _ _ rfl (Ext.refl _)
      · intro fa fw hx hs hb
        have s1 : fa.tmps[(1 : Nat)]? = some (.pointer (some ⟨w.heap.size, 0, none⟩)) := (hb 1 (by kernel_rfl)).trans (by rfl)
        refine .inl ⟨wanted_free rfl, fun K hK => ?_⟩
        clear hs hb hx
        go_simp
        exact hK _ _ rfl (Ext.refl _)
      · intro fa fw hx hs hb
        obtain ⟨_, s23, rfl⟩ := hs 7 23 (by kernel_rfl) (by kernel_rfl)
        have c0 := hx.keeps _ _ B0.out
        refine .inl ⟨wanted_free rfl, fun K hK => ?_⟩
        clear hs hb hx
        go_simp
        exact hK _ _ rfl (Ext.refl _)
      · intro fa fw hx hs hb
        obtain ⟨_, s22, rfl⟩ := hs 6 22 (by kernel_rfl) (by kernel_rfl)
        obtain ⟨_, s24, rfl⟩ := hs 8 24 (by kernel_rfl) (by kernel_rfl)
        refine .inl ⟨wanted_free rfl, fun K hK => ?_⟩
        clear hs hb
        go_simp
        refine (OP.out fw m (by omega)).mono ?_
        rintro e w' ⟨r0, rfl, ho, xq⟩
        obtain ⟨Aq, cq, rfl, -, -, -⟩ := own_sl ho
        exact hK _ _ ⟨Aq, cq, rfl, own_base ho hx.size⟩ xq
      · intro fa fw hx hs hb
        obtain ⟨_, s21, A21, c21, rfl, q21⟩ := hs 5 21 (by kernel_rfl) (by kernel_rfl)
        obtain ⟨_, s25, A25, c25, rfl, q25⟩ := hs 9 25 (by kernel_rfl) (by kernel_rfl)
        refine .inl ⟨wanted_free rfl, fun K hK => ?_⟩
        clear hs hb
        go_simp
        exact hK _ _ ⟨A21, c21, A25, c25, rfl, q21, q25⟩ (Ext.refl _)
      · intro fa fw hx hs hb
        obtain ⟨_, s16, rfl⟩ := hs 0 16 (by kernel_rfl) (by kernel_rfl)
        obtain ⟨_, s26, A26, c26, B26, d26, rfl, q26, p26⟩ := hs 10 26 (by kernel_rfl) (by kernel_rfl)
        refine .inl ⟨wanted_free rfl, fun K hK => ?_⟩
        clear hs hb
        obtain ⟨Ar, cr, er, -, -, hsr⟩ := own_sl q26
        injection er with er _ ec
        subst er; subst ec
        obtain ⟨Ai, ci, ei, -, -, hsi⟩ := own_sl p26
        injection ei with ei _ ec
        subst ei; subst ec
        go_simp
        refine (ST.out fw _ _ _ _ hx hsr hsi).mono ?_
        rintro e w' ⟨r0, rfl, ho, xq⟩
        obtain ⟨Aq, cq, rfl, -, -, -⟩ := own_sl ho
        exact hK _ _ ⟨Aq, cq, rfl, own_base ho hx.size⟩ xq
      · intro fa fw hx hs hb
        obtain ⟨_, s27, A27, c27, rfl, q27⟩ := hs 11 27 (by kernel_rfl) (by kernel_rfl)
        refine .inl ⟨wanted_free rfl, fun K hK => ?_⟩
        clear hs hb
        go_simp
        exact hK _ _ ⟨A27, c27, rfl, q27⟩ (Ext.refl _)
    case rest =>
      intro w2 hxw2
      rintro _ rfl
      rintro _ rfl
      rintro _ rfl
      rintro _ rfl
      rintro _ rfl
      rintro _ ⟨A21, c21, rfl, q21⟩
      rintro _ rfl
      rintro _ rfl
      rintro _ rfl
      rintro _ ⟨A25, c25, rfl, q25⟩
      rintro _ ⟨A26, c26, B26, d26, rfl, q26, p26⟩
      rintro _ ⟨A27, c27, rfl, q27⟩
      rintro _ ⟨A6, c6, rfl, q6⟩
      simp only [putAll, List.take, Act.put, List.setIfInBounds_toArray, List.set_cons_zero, List.set_cons_succ]
      refine wpAny_done (by kernel_rfl) ?_ _
      have B0' := Lib.hid (hxw2.keeps _ _ B0.out); have B1' := Lib.hid (hxw2.keeps _ _ B1.out); have B2' := Lib.hid (hxw2.keeps _ _ B2.out); have B3' := Lib.hid (hxw2.keeps _ _ B3.out)
      have X2 := Lib.hid (X1.out.trans hxw2); have V2 := Lib.hid q6; have X12 := Lib.hid hxw2
      clear hxw2 q6 B0 B1 B2 B3 q21 q25 q26 p26
      go_wp2_with fail
      refine wp_flow4 10 1 [isV (.pointer (some ⟨w.heap.size, 0, none⟩)), isV (.int .i64 m), isV (.pointer (some ⟨w.heap.size, 2, none⟩)), isV (.slice RA rn rc), fun v w => ∃ A c, v = .slice A rn c ∧ w.ownsRow w2.heap.size 78 2 (.slice A rn c) rn (storeCs N.regs), isV (.pointer (some ⟨w.heap.size, 3, none⟩)), isV (.slice OA on oc), fun v w => ∃ A c, v = .slice A on c ∧ w.ownsRow w2.heap.size 3 1 (.slice A on c) on (N.outs.map I), fun v w => ∃ A c B d, v = .agg #[I m, .slice none 0 0, .slice A rn c, .slice B on d] ∧ w.ownsRow w2.heap.size 78 2 (.slice A rn c) rn (storeCs N.regs) ∧ w.ownsRow w2.heap.size 3 1 (.slice B on d) on (N.outs.map I), fun v w => ∃ b, v = .pointer (some ⟨b, 0, none⟩) ∧ w2.heap.size ≤ b ∧ Box w b 26 [I 0, .slice none 0 0, .slice none 0 0, .slice none 0 0]] (by kernel_rfl) rfl rfl (by kernel_rfl) (by kernel_rfl) ⟨isV_mono, isV_mono, isV_mono, isV_mono, fun v w w' ⟨A, c, e, h⟩ hx => ⟨A, c, e, own_ext h hx⟩, isV_mono, isV_mono, fun v w w' ⟨A, c, e, h⟩ hx => ⟨A, c, e, own_ext h hx⟩, fun v w w' ⟨A, c, B, d, e, h, k⟩ hx => ⟨A, c, B, d, e, own_ext h hx, own_ext k hx⟩, fun v w w' ⟨b, e, h, k⟩ hx => ⟨b, e, h, k.ext hx⟩, trivial⟩ ?each ?rest
      case each =>
        refine .cons ?_ (.cons ?_ (.cons ?_ (.cons ?_ (.cons ?_ (.cons ?_ (.cons ?_ (.cons ?_ (.cons ?_ (.cons ?_ (.nil))))))))))
        · intro fa fw hx hs hb
          have s1 : fa.tmps[(1 : Nat)]? = some (.pointer (some ⟨w.heap.size, 0, none⟩)) := (hb 1 (by kernel_rfl)).trans (by rfl)
          refine .inl ⟨wanted_free rfl, fun K hK => ?_⟩
          clear hs hb hx
          go_simp
          exact hK _ _ rfl (Ext.refl _)
        · intro fa fw hx hs hb
          obtain ⟨_, s28, rfl⟩ := hs 0 28 (by kernel_rfl) (by kernel_rfl)
          have c0 := hx.keeps _ _ B0'.out
          refine .inl ⟨wanted_free rfl, fun K hK => ?_⟩
          clear hs hb hx
          go_simp
          exact hK _ _ rfl (Ext.refl _)
        · intro fa fw hx hs hb
          have s1 : fa.tmps[(1 : Nat)]? = some (.pointer (some ⟨w.heap.size, 0, none⟩)) := (hb 1 (by kernel_rfl)).trans (by rfl)
          refine .inl ⟨wanted_free rfl, fun K hK => ?_⟩
          clear hs hb hx
          go_simp
          exact hK _ _ rfl (Ext.refl _)
        · intro fa fw hx hs hb
          obtain ⟨_, s30, rfl⟩ := hs 2 30 (by kernel_rfl) (by kernel_rfl)
          have c0 := hx.keeps _ _ B2'.out
          refine .inl ⟨wanted_free rfl, fun K hK => ?_⟩
          clear hs hb hx
          go_simp
          exact hK _ _ rfl (Ext.refl _)
        · intro fa fw hx hs hb
          obtain ⟨_, s31, rfl⟩ := hs 3 31 (by kernel_rfl) (by kernel_rfl)
          refine .inl ⟨wanted_free rfl, fun K hK => ?_⟩
          clear hs hb
          go_simp
          refine (CS.out fw (X12.out.trans hx)).mono ?_
          rintro e w' ⟨r0, rfl, ho, xq⟩
          obtain ⟨Aq, cq, rfl, -, -, -⟩ := own_slice ho
          exact hK _ _ ⟨Aq, cq, rfl, own_base ho hx.size⟩ xq
        · intro fa fw hx hs hb
          have s1 : fa.tmps[(1 : Nat)]? = some (.pointer (some ⟨w.heap.size, 0, none⟩)) := (hb 1 (by kernel_rfl)).trans (by rfl)
          refine .inl ⟨wanted_free rfl, fun K hK => ?_⟩
          clear hs hb hx
          go_simp
          exact hK _ _ rfl (Ext.refl _)
        · intro fa fw hx hs hb
          obtain ⟨_, s33, rfl⟩ := hs 5 33 (by kernel_rfl) (by kernel_rfl)
          have c0 := hx.keeps _ _ B3'.out
          refine .inl ⟨wanted_free rfl, fun K hK => ?_⟩
          clear hs hb hx
          go_simp
          exact hK _ _ rfl (Ext.refl _)
        · intro fa fw hx hs hb
          obtain ⟨_, s34, rfl⟩ := hs 6 34 (by kernel_rfl) (by kernel_rfl)
          refine .inl ⟨wanted_free rfl, fun K hK => ?_⟩
          clear hs hb
          go_simp
          refine (CI.out fw (X12.out.trans hx)).mono ?_
          rintro e w' ⟨r0, rfl, ho, xq⟩
          obtain ⟨Aq, cq, rfl, -, -, -⟩ := own_sl ho
          exact hK _ _ ⟨Aq, cq, rfl, own_base ho hx.size⟩ xq
        · intro fa fw hx hs hb
          obtain ⟨_, s29, rfl⟩ := hs 1 29 (by kernel_rfl) (by kernel_rfl)
          obtain ⟨_, s32, A32, c32, rfl, q32⟩ := hs 4 32 (by kernel_rfl) (by kernel_rfl)
          obtain ⟨_, s35, A35, c35, rfl, q35⟩ := hs 7 35 (by kernel_rfl) (by kernel_rfl)
          refine .inl ⟨wanted_free rfl, fun K hK => ?_⟩
          clear hs hb
          go_simp
          exact hK _ _ ⟨A32, c32, A35, c35, rfl, q32, q35⟩ (Ext.refl _)
        · intro fa fw hx hs hb
          refine .inl ⟨wanted_free rfl, fun K hK => ?_⟩
          clear hs hb
          go_simp
          exact hK _ _ ⟨fw.heap.size, rfl, hx.size, Box.new fw _ _⟩ ((Ext.refl _).alloc _)
      case rest =>
        intro w3 hxw3
        rintro _ rfl
        rintro _ rfl
        rintro _ rfl
        rintro _ rfl
        rintro _ ⟨A32, c32, rfl, q32⟩
        rintro _ rfl
        rintro _ rfl
        rintro _ ⟨A35, c35, rfl, q35⟩
        rintro _ ⟨A36, c36, B36, d36, rfl, q36, p36⟩
        rintro _ ⟨b7, rfl, h7, k7⟩
        simp only [putAll, List.take, Act.put, List.setIfInBounds_toArray, List.set_cons_zero, List.set_cons_succ]
        have K7 := Lib.hid k7; have H7 := Lib.hid h7
        have m0 := (k7.cell 0).trans rfl; have m1 := (k7.cell 1).trans rfl; have m2 := (k7.cell 2).trans rfl; have m3 := (k7.cell 3).trans rfl
        simp only [List.getElem?_cons_zero, List.getElem?_cons_succ] at m0 m1 m2 m3
        have f7 := k7.free
        refine wpAny_ready (rs := [10]) (by kernel_rfl) (by simp) (AllReady.cons rfl (fun KK hKK => ?_) AllReady.nil)
        have HRO := Lib.hid q36; have HOO := Lib.hid p36
        have X3 := Lib.hid hxw3
        clear q36 p36 hxw3 k7 h7 q32 q35
        go_simp
        refine hKK _ _ ?_
        clear hKK KK m0 m1 m2 m3 f7
        refine wpAny_done (by kernel_rfl) ?_ _
        obtain ⟨w4, hw4⟩ : ∃ w4, w4 = (((w3.setCell ⟨b7, 0, none⟩ (I m)).setCell ⟨b7, 1, none⟩ (.slice none 0 0)).setCell ⟨b7, 2, none⟩ (.slice A36 rn c36)).setCell ⟨b7, 3, none⟩ (.slice B36 on d36) := ⟨_, rfl⟩
        have hk4 : Box w4 b7 26 [I m, .slice none 0 0, .slice A36 rn c36, .slice B36 on d36] := by rw [hw4]; exact (((K7.out.set 0 (I m)).set 1 (.slice none 0 0)).set 2 (.slice A36 rn c36)).set 3 (.slice B36 on d36)
        have ar := K7.out.apart HRO.out (by decide); have ao := K7.out.apart HOO.out (by decide)
        have hr4 : w4.ownsRow w2.heap.size 78 2 (.slice A36 rn c36) rn (storeCs N.regs) := by rw [hw4]; exact own_set (own_set (own_set (own_set HRO.out ar _ _) ar _ _) ar _ _) ar _ _
        have ho4 : w4.ownsRow w2.heap.size 3 1 (.slice B36 on d36) on (N.outs.map I) := by rw [hw4]; exact own_set (own_set (own_set (own_set HOO.out ao _ _) ao _ _) ao _ _) ao _ _
        have hx4 : Ext w2 w4 := by rw [hw4]; exact (((X3.out.setCell (p := ⟨b7, 0, none⟩) H7.out _).setCell (p := ⟨b7, 1, none⟩) H7.out _).setCell (p := ⟨b7, 2, none⟩) H7.out _).setCell (p := ⟨b7, 3, none⟩) H7.out _
        have HW4 := Lib.hid hw4; have HK4 := Lib.hid hk4; have HR4 := Lib.hid hr4; have HO4 := Lib.hid ho4; have HX4 := Lib.hid hx4
        have NW := Lib.hid (NN.out.keep X12.out.keeps)
        have HZ2 := Lib.hid (HZ.out.ext X2.out)
        obtain ⟨VA, vc, ev, -, -, hsv⟩ := own_sl V2.out
        injection ev with ev _ ev2; subst ev; subst ev2
        have HSV := Lib.hid hsv
        have hb1 := hx4.keeps _ _ B1'.out
        clear hw4 hk4 hr4 ho4 hx4 ar ao HRO HOO K7 hsv
        rw [← HW4.out]
        go_wp2_with fail
        clear hb1 HW4
        go_loopw [40] (fun j wr => ∃ (k : Nat) (A : Option Addr) (c : Nat) (vs : List Value), k ≤ gn ∧ j = .int .i64 k ∧ Ext w2 wr ∧ Box wr b7 26 [I m, .slice A k c, .slice A36 rn c36, .slice B36 on d36] ∧ OwnG wr w2.heap.size (.slice A k c) (F.take k) vs ∧
          wr.ownsRow w2.heap.size 78 2 (.slice A36 rn c36) rn (storeCs N.regs) ∧ wr.ownsRow w2.heap.size 3 1 (.slice B36 on d36) on (N.outs.map I)) (fun j _ => gn - (intOf j).toNat)
        case atStart => exact ⟨0, none, 0, [], Nat.zero_le _, rfl, HX4.out, HK4.out, OwnG.nil _ _, HR4.out, HO4.out⟩
        case round =>
          obtain ⟨k, A, c, vs, hk, rfl, hext, hbx, hog, hor, hoo⟩ := hrel
          by_cases hlt : k < gn
          · obtain ⟨b, off, A', m', c', g, rfl, c0, c1, c2, hsg, hmc, hcm, -, hg⟩ := (NW.out.keep hext.keeps).gates.next hlt
            obtain ⟨vb, vo, x, rfl, hv0, hvx⟩ := HSV.out.at_ hlt
            have hcv := hext.keeps _ _ hv0
            have hml : m' ≤ 16 := by have := HOK.out.al g (List.mem_of_getElem? hg); have := hsg.len; omega
            have hFk := HFA.out k g hg
            have hvk : valI V k = x := valI_at hvx
            rw [hvk] at hFk
            have hx2 := valI_good HVG.out k
            rw [hvk] at hx2
            have hlen : (F.take k).length = k := by rw [List.length_take, HFL.out]; omega
            obtain ⟨wa, hwa⟩ : ∃ wa, wa = wr.alloc (.cells #[I g.kind, I g.num, .slice A' m' c'] 34) := ⟨_, rfl⟩
            have hxa : Ext wr wa := by rw [hwa]; exact (Ext.refl _).alloc _
            have hba : Box wa wr.heap.size 34 [I g.kind, I g.num, .slice A' m' c'] := by rw [hwa]; exact Box.new wr _ _
            have HE := Lib.hid hext; have HBX := Lib.hid hbx; have HOG := Lib.hid hog; have HOR := Lib.hid hor; have HOOO := Lib.hid hoo; have HSG := Lib.hid hsg; have HFK := Lib.hid hFk; have HLEN := Lib.hid hlen
            have HWA := Lib.hid hwa; have HXA := Lib.hid hxa; have HBA := Lib.hid hba; have HML := Lib.hid hml
            clear hbx hog hor hoo hsg hmc hcm hFk hvk hvx hv0 hlen hwa hxa hba hml hg
            rcases hx2 with rfl | rfl | rfl
            · obtain ⟨G, hG⟩ : ∃ G : GateM, G = ⟨0, 0, []⟩ := ⟨_, rfl⟩
              obtain ⟨A2, m2, c2, hA2, hm2, hc2⟩ : ∃ (A2 : Option Addr) (m2 c2 : Nat), A2 = none ∧ m2 = 0 ∧ c2 = 0 := ⟨_, _, _, rfl, rfl, rfl⟩
              obtain ⟨wq, hwq⟩ : ∃ wq, wq = wr.alloc (.cells #[.int .i64 0, .int .i64 0, .slice none 0 0] 34) := ⟨_, rfl⟩
              have hbq : Box wq wr.heap.size 34 [I G.kind, I G.num, .slice A2 m2 c2] := by rw [hwq, hG, hA2, hm2, hc2]; exact Box.new wr [I 0, I 0, .slice none 0 0] _
              have hxq : Ext wr wq := by rw [hwq]; exact (Ext.refl _).alloc _
              have hsq : Sl wq A2 m2 (G.args.map I) := by rw [hG, hA2, hm2]; exact Sl.nil _ _
              have hfk : F[k]? = some G := by rw [hG]; exact HFK.out
              have hgl : G.args.length = m2 := hsq.len
              have hml : m2 ≤ 16 := by omega
              have hov : ∀ Q, Ext wq Q → Calls Try.prog 107 #[gateV G.kind G.num A2 m2 c2] Q fun e w' => ∃ A' c', e = .returned (gateV G.kind G.num A' m2 c') ∧ w'.ownsRow Q.heap.size 3 1 (.slice A' m2 c') m2 (G.args.map I) ∧ Ext Q w' := fun Q hQ => own_any G.kind G.num A2 m2 c2 G.args Q (hsq.keep hQ.keeps) (by omega)
              have HWQ := Lib.hid hwq; have OW := Lib.hid hov; have HGL := Lib.hid hgl; have HFKG := Lib.hid hfk
              have HBXQ := Lib.hid (HBX.out.ext hxq); have HOGQ := Lib.hid (HOG.out.ext hxq); have HORQ := Lib.hid (own_ext HOR.out hxq); have HOOQ := Lib.hid (own_ext HOOO.out hxq); have HEQ := Lib.hid (HE.out.trans hxq)
              have G0 : Hid (wq.cell? ⟨wr.heap.size, 0, none⟩ = some (I G.kind)) := hbq.cell 0; have G1 : Hid (wq.cell? ⟨wr.heap.size, 1, none⟩ = some (I G.num)) := hbq.cell 1; have G2 : Hid (wq.cell? ⟨wr.heap.size, 2, none⟩ = some (.slice A2 m2 c2)) := hbq.cell 2
              have M1 : Hid (wq.cell? ⟨b7, 1, none⟩ = some (.slice A k c)) := HBXQ.out.cell 1
              have hcw := HXA.out.keeps _ _ hcv
              rw [HWA.out] at hcw
              clear hcv
              clear hG hwq hbq hxq hsq hfk hgl hov hA2 hm2 hc2
              go_wp2_with fail
              rw [← HWQ.out]
              clear hcw
              refine wp_flow4 5 3 [isV (.pointer (some ⟨b7, 1, none⟩)), isV (.slice A k c), isV (.agg #[I G.kind, I G.num, .slice A2 m2 c2]), fun v w => ∃ A c, v = .agg #[I G.kind, I G.num, .slice A m2 c] ∧ w.ownsRow wq.heap.size 3 1 (.slice A m2 c) m2 (G.args.map I), fun v w => ∃ b A c, v = .slice (some ⟨b, 0, none⟩) 1 1 ∧ Box w b 34 [I G.kind, I G.num, .slice A m2 c] ∧ w.ownsRow wq.heap.size 3 1 (.slice A m2 c) m2 (G.args.map I)] (by kernel_rfl) rfl rfl (by kernel_rfl) (by kernel_rfl) ⟨isV_mono, isV_mono, isV_mono, fun v w w' ⟨A, c, e, h⟩ hx => ⟨A, c, e, own_ext h hx⟩, fun v w w' ⟨b, A, c, e, h, k⟩ hx => ⟨b, A, c, e, h.ext hx, own_ext k hx⟩, trivial⟩ ?each ?rest
              case each =>
                refine .cons ?_ (.cons ?_ (.cons ?_ (.cons ?_ (.cons ?_ (.nil)))))
                · intro fa fw hx hs hb
                  have s7 : fa.tmps[(7 : Nat)]? = some (.pointer (some ⟨b7, 0, none⟩)) := (hb 7 (by kernel_rfl)).trans (by rfl)
                  refine .inl ⟨wanted_free rfl, fun K hK => ?_⟩
                  clear hs hb hx
                  go_simp
                  exact hK _ _ rfl (Ext.refl _)
                · intro fa fw hx hs hb
                  obtain ⟨_, s55, rfl⟩ := hs 0 55 (by kernel_rfl) (by kernel_rfl)
                  have c0 := hx.keeps _ _ M1.out
                  refine .inl ⟨wanted_free rfl, fun K hK => ?_⟩
                  clear hs hb hx
                  go_simp
                  exact hK _ _ rfl (Ext.refl _)
                · intro fa fw hx hs hb
                  have s9 : fa.tmps[(9 : Nat)]? = some (.pointer (some ⟨wr.heap.size, 0, none⟩)) := (hb 9 (by kernel_rfl)).trans (by rfl)
                  have c0 := hx.keeps _ _ G0.out
                  have c1 := hx.keeps _ _ G1.out
                  have c2 := hx.keeps _ _ G2.out
                  refine .inl ⟨wanted_free rfl, fun K hK => ?_⟩
                  clear hs hb hx
                  go_simp
                  exact hK _ _ rfl (Ext.refl _)
                · intro fa fw hx hs hb
                  obtain ⟨_, s57, rfl⟩ := hs 2 57 (by kernel_rfl) (by kernel_rfl)
                  refine .inl ⟨wanted_free rfl, fun K hK => ?_⟩
                  clear hs hb
                  go_simp
                  refine (OW.out fw hx).mono ?_
                  rintro e w' ⟨A', c', rfl, ho, xq⟩
                  exact hK _ _ ⟨A', c', rfl, own_base ho hx.size⟩ xq
                · intro fa fw hx hs hb
                  obtain ⟨_, s58, A58, c58, rfl, q58⟩ := hs 3 58 (by kernel_rfl) (by kernel_rfl)
                  refine .inl ⟨wanted_free rfl, fun K hK => ?_⟩
                  clear hs hb
                  go_simp
                  exact hK _ _ ⟨fw.heap.size, A58, c58, rfl, Box.new fw _ _, own_ext q58 ((Ext.refl fw).alloc _)⟩ ((Ext.refl _).alloc _)
              case rest =>
                intro w5 hxw5
                rintro _ rfl
                rintro _ rfl
                rintro _ rfl
                rintro _ ⟨A58, c58, rfl, q58⟩
                rintro _ ⟨b59, A59, c59, rfl, k59, q59⟩
                simp only [putAll, List.take, Act.put, List.setIfInBounds_toArray, List.set_cons_zero, List.set_cons_succ]
                obtain ⟨inf, hti, htz, hts1, hts2⟩ := info_parts tab_gate
                have hog5 := HOGQ.out.ext hxw5
                have hbx5 := HBXQ.out.ext hxw5
                refine wpAny_ready (rs := [5]) (by kernel_rfl) (by simp) (AllReady.cons rfl (fun KK hKK => ?_) AllReady.nil)
                refine step_append_lies _ rfl (.tmp 56) (.tmp 59) 22 rfl w2.heap.size 34 inf _ 3 40 Try.underlying22 hti htz hts1 hts2 rfl (by omega) (.slice A k c) k _ rfl (by have := hog5.row; rw [HLEN.out] at this; exact this) ⟨b59, 0, none⟩ 1 1 [I G.kind, I G.num, .slice A59 m2 c59] rfl rfl (fun j u hu => by rw [add_zero, k59.cell]; exact hu) (by simp [Value.oneCell']) (by omega) (by unfold maxLen; omega) (by omega) (HEQ.out.trans hxw5).size _ rfl ?_
                intro g6 cap6 w6 hown6 hgr6 _ _
                refine hKK _ _ ?_
                clear hKK KK
                have hog6 := HOGQ.out.push hxw5 HEQ.out.size (g := G) (v := .slice A59 m2 c59) (by rw [HGL.out]; exact q59) (by rw [HLEN.out]; exact hown6) hgr6
                have hrow : (Value.slice A k c).ownBlock ≠ some b7 := hbx5.apart hog5.row (by decide)
                have hbx6 := hbx5.kept hgr6 hrow
                have hor6 := (own_ext HORQ.out hxw5).kept hgr6 (own_types (own_ext HORQ.out hxw5) hog5.row (by decide))
                have hoo6 := (own_ext HOOQ.out hxw5).kept hgr6 (own_types (own_ext HOOQ.out hxw5) hog5.row (by decide))
                have hx6 : Ext w2 w6 := Below.grown (HEQ.out.trans hxw5) hgr6 (HEQ.out.trans hxw5).size (fun b hb => (hog5.row.lt b hb).1)
                have m1 := (hbx6.cell 1).trans rfl
                simp only [List.getElem?_cons_zero, List.getElem?_cons_succ] at m1
                have f6 := hbx6.free
                have HB6 := Lib.hid hbx6; have HG6 := Lib.hid hog6; have HR6 := Lib.hid hor6; have HO6 := Lib.hid hoo6; have HX6 := Lib.hid hx6
                clear hbx6 hog6 hor6 hoo6 hx6 hbx5 hog5 hrow hown6 hgr6 k59 q59 q58
                refine wpAny_ready (rs := [6]) (by kernel_rfl) (by simp) (AllReady.cons rfl (fun KK hKK => ?_) AllReady.nil)
                go_simp
                refine hKK _ _ ?_
                clear hKK KK
                refine wpAny_ready (rs := [7]) (by kernel_rfl) (by simp) (AllReady.cons rfl (fun KK hKK => ?_) AllReady.nil)
                go_simp
                refine hKK _ _ ?_
                clear hKK KK m1 f6
                refine wpAny_done (by kernel_rfl) ?_ _
                have HB7 := Lib.hid (HB6.out.set 1 (.slice (some ⟨g6, 0, none⟩) (k + 1) cap6)); have HG7 := Lib.hid (HG6.out.box HB6.out 1 (.slice (some ⟨g6, 0, none⟩) (k + 1) cap6))
                have HR7 := Lib.hid (own_set HR6.out (HB6.out.apart HR6.out (by decide)) 1 (.slice (some ⟨g6, 0, none⟩) (k + 1) cap6)); have HO7 := Lib.hid (own_set HO6.out (HB6.out.apart HO6.out (by decide)) 1 (.slice (some ⟨g6, 0, none⟩) (k + 1) cap6))
                have HX7 := Lib.hid (HX6.out.setCell (p := ⟨b7, 1, none⟩) H7.out (.slice (some ⟨g6, 0, none⟩) (k + 1) cap6))
                clear HB6 HG6 HR6 HO6 HX6
                go_wp2
                go_roundw
                case rel => exact ⟨k + 1, _, _, _, by omega, by go_num, HX7.out, HB7.out, by rw [take_snoc HFKG.out]; exact HG7.out, HR7.out, HO7.out⟩
                case measure => simp [intOf]; omega
            · obtain ⟨G, hG⟩ : ∃ G : GateM, G = ⟨1, 0, []⟩ := ⟨_, rfl⟩
              obtain ⟨A2, m2, c2, hA2, hm2, hc2⟩ : ∃ (A2 : Option Addr) (m2 c2 : Nat), A2 = none ∧ m2 = 0 ∧ c2 = 0 := ⟨_, _, _, rfl, rfl, rfl⟩
              obtain ⟨wq, hwq⟩ : ∃ wq, wq = wr.alloc (.cells #[.int .i64 1, .int .i64 0, .slice none 0 0] 34) := ⟨_, rfl⟩
              have hbq : Box wq wr.heap.size 34 [I G.kind, I G.num, .slice A2 m2 c2] := by rw [hwq, hG, hA2, hm2, hc2]; exact Box.new wr [I 1, I 0, .slice none 0 0] _
              have hxq : Ext wr wq := by rw [hwq]; exact (Ext.refl _).alloc _
              have hsq : Sl wq A2 m2 (G.args.map I) := by rw [hG, hA2, hm2]; exact Sl.nil _ _
              have hfk : F[k]? = some G := by rw [hG]; exact HFK.out
              have hgl : G.args.length = m2 := hsq.len
              have hml : m2 ≤ 16 := by omega
              have hov : ∀ Q, Ext wq Q → Calls Try.prog 107 #[gateV G.kind G.num A2 m2 c2] Q fun e w' => ∃ A' c', e = .returned (gateV G.kind G.num A' m2 c') ∧ w'.ownsRow Q.heap.size 3 1 (.slice A' m2 c') m2 (G.args.map I) ∧ Ext Q w' := fun Q hQ => own_any G.kind G.num A2 m2 c2 G.args Q (hsq.keep hQ.keeps) (by omega)
              have HWQ := Lib.hid hwq; have OW := Lib.hid hov; have HGL := Lib.hid hgl; have HFKG := Lib.hid hfk
              have HBXQ := Lib.hid (HBX.out.ext hxq); have HOGQ := Lib.hid (HOG.out.ext hxq); have HORQ := Lib.hid (own_ext HOR.out hxq); have HOOQ := Lib.hid (own_ext HOOO.out hxq); have HEQ := Lib.hid (HE.out.trans hxq)
              have G0 : Hid (wq.cell? ⟨wr.heap.size, 0, none⟩ = some (I G.kind)) := hbq.cell 0; have G1 : Hid (wq.cell? ⟨wr.heap.size, 1, none⟩ = some (I G.num)) := hbq.cell 1; have G2 : Hid (wq.cell? ⟨wr.heap.size, 2, none⟩ = some (.slice A2 m2 c2)) := hbq.cell 2
              have M1 : Hid (wq.cell? ⟨b7, 1, none⟩ = some (.slice A k c)) := HBXQ.out.cell 1
              have hcw := HXA.out.keeps _ _ hcv
              rw [HWA.out] at hcw
              clear hcv
              clear hG hwq hbq hxq hsq hfk hgl hov hA2 hm2 hc2
              go_wp2_with fail
              rw [← HWQ.out]
              clear hcw
              refine wp_flow4 5 3 [isV (.pointer (some ⟨b7, 1, none⟩)), isV (.slice A k c), isV (.agg #[I G.kind, I G.num, .slice A2 m2 c2]), fun v w => ∃ A c, v = .agg #[I G.kind, I G.num, .slice A m2 c] ∧ w.ownsRow wq.heap.size 3 1 (.slice A m2 c) m2 (G.args.map I), fun v w => ∃ b A c, v = .slice (some ⟨b, 0, none⟩) 1 1 ∧ Box w b 34 [I G.kind, I G.num, .slice A m2 c] ∧ w.ownsRow wq.heap.size 3 1 (.slice A m2 c) m2 (G.args.map I)] (by kernel_rfl) rfl rfl (by kernel_rfl) (by kernel_rfl) ⟨isV_mono, isV_mono, isV_mono, fun v w w' ⟨A, c, e, h⟩ hx => ⟨A, c, e, own_ext h hx⟩, fun v w w' ⟨b, A, c, e, h, k⟩ hx => ⟨b, A, c, e, h.ext hx, own_ext k hx⟩, trivial⟩ ?each ?rest
              case each =>
                refine .cons ?_ (.cons ?_ (.cons ?_ (.cons ?_ (.cons ?_ (.nil)))))
                · intro fa fw hx hs hb
                  have s7 : fa.tmps[(7 : Nat)]? = some (.pointer (some ⟨b7, 0, none⟩)) := (hb 7 (by kernel_rfl)).trans (by rfl)
                  refine .inl ⟨wanted_free rfl, fun K hK => ?_⟩
                  clear hs hb hx
                  go_simp
                  exact hK _ _ rfl (Ext.refl _)
                · intro fa fw hx hs hb
                  obtain ⟨_, s55, rfl⟩ := hs 0 55 (by kernel_rfl) (by kernel_rfl)
                  have c0 := hx.keeps _ _ M1.out
                  refine .inl ⟨wanted_free rfl, fun K hK => ?_⟩
                  clear hs hb hx
                  go_simp
                  exact hK _ _ rfl (Ext.refl _)
                · intro fa fw hx hs hb
                  have s9 : fa.tmps[(9 : Nat)]? = some (.pointer (some ⟨wr.heap.size, 0, none⟩)) := (hb 9 (by kernel_rfl)).trans (by rfl)
                  have c0 := hx.keeps _ _ G0.out
                  have c1 := hx.keeps _ _ G1.out
                  have c2 := hx.keeps _ _ G2.out
                  refine .inl ⟨wanted_free rfl, fun K hK => ?_⟩
                  clear hs hb hx
                  go_simp
                  exact hK _ _ rfl (Ext.refl _)
                · intro fa fw hx hs hb
                  obtain ⟨_, s57, rfl⟩ := hs 2 57 (by kernel_rfl) (by kernel_rfl)
                  refine .inl ⟨wanted_free rfl, fun K hK => ?_⟩
                  clear hs hb
                  go_simp
                  refine (OW.out fw hx).mono ?_
                  rintro e w' ⟨A', c', rfl, ho, xq⟩
                  exact hK _ _ ⟨A', c', rfl, own_base ho hx.size⟩ xq
                · intro fa fw hx hs hb
                  obtain ⟨_, s58, A58, c58, rfl, q58⟩ := hs 3 58 (by kernel_rfl) (by kernel_rfl)
                  refine .inl ⟨wanted_free rfl, fun K hK => ?_⟩
                  clear hs hb
                  go_simp
                  exact hK _ _ ⟨fw.heap.size, A58, c58, rfl, Box.new fw _ _, own_ext q58 ((Ext.refl fw).alloc _)⟩ ((Ext.refl _).alloc _)
              case rest =>
                intro w5 hxw5
                rintro _ rfl
                rintro _ rfl
                rintro _ rfl
                rintro _ ⟨A58, c58, rfl, q58⟩
                rintro _ ⟨b59, A59, c59, rfl, k59, q59⟩
                simp only [putAll, List.take, Act.put, List.setIfInBounds_toArray, List.set_cons_zero, List.set_cons_succ]
                obtain ⟨inf, hti, htz, hts1, hts2⟩ := info_parts tab_gate
                have hog5 := HOGQ.out.ext hxw5
                have hbx5 := HBXQ.out.ext hxw5
                refine wpAny_ready (rs := [5]) (by kernel_rfl) (by simp) (AllReady.cons rfl (fun KK hKK => ?_) AllReady.nil)
                refine step_append_lies _ rfl (.tmp 56) (.tmp 59) 22 rfl w2.heap.size 34 inf _ 3 40 Try.underlying22 hti htz hts1 hts2 rfl (by omega) (.slice A k c) k _ rfl (by have := hog5.row; rw [HLEN.out] at this; exact this) ⟨b59, 0, none⟩ 1 1 [I G.kind, I G.num, .slice A59 m2 c59] rfl rfl (fun j u hu => by rw [add_zero, k59.cell]; exact hu) (by simp [Value.oneCell']) (by omega) (by unfold maxLen; omega) (by omega) (HEQ.out.trans hxw5).size _ rfl ?_
                intro g6 cap6 w6 hown6 hgr6 _ _
                refine hKK _ _ ?_
                clear hKK KK
                have hog6 := HOGQ.out.push hxw5 HEQ.out.size (g := G) (v := .slice A59 m2 c59) (by rw [HGL.out]; exact q59) (by rw [HLEN.out]; exact hown6) hgr6
                have hrow : (Value.slice A k c).ownBlock ≠ some b7 := hbx5.apart hog5.row (by decide)
                have hbx6 := hbx5.kept hgr6 hrow
                have hor6 := (own_ext HORQ.out hxw5).kept hgr6 (own_types (own_ext HORQ.out hxw5) hog5.row (by decide))
                have hoo6 := (own_ext HOOQ.out hxw5).kept hgr6 (own_types (own_ext HOOQ.out hxw5) hog5.row (by decide))
                have hx6 : Ext w2 w6 := Below.grown (HEQ.out.trans hxw5) hgr6 (HEQ.out.trans hxw5).size (fun b hb => (hog5.row.lt b hb).1)
                have m1 := (hbx6.cell 1).trans rfl
                simp only [List.getElem?_cons_zero, List.getElem?_cons_succ] at m1
                have f6 := hbx6.free
                have HB6 := Lib.hid hbx6; have HG6 := Lib.hid hog6; have HR6 := Lib.hid hor6; have HO6 := Lib.hid hoo6; have HX6 := Lib.hid hx6
                clear hbx6 hog6 hor6 hoo6 hx6 hbx5 hog5 hrow hown6 hgr6 k59 q59 q58
                refine wpAny_ready (rs := [6]) (by kernel_rfl) (by simp) (AllReady.cons rfl (fun KK hKK => ?_) AllReady.nil)
                go_simp
                refine hKK _ _ ?_
                clear hKK KK
                refine wpAny_ready (rs := [7]) (by kernel_rfl) (by simp) (AllReady.cons rfl (fun KK hKK => ?_) AllReady.nil)
                go_simp
                refine hKK _ _ ?_
                clear hKK KK m1 f6
                refine wpAny_done (by kernel_rfl) ?_ _
                have HB7 := Lib.hid (HB6.out.set 1 (.slice (some ⟨g6, 0, none⟩) (k + 1) cap6)); have HG7 := Lib.hid (HG6.out.box HB6.out 1 (.slice (some ⟨g6, 0, none⟩) (k + 1) cap6))
                have HR7 := Lib.hid (own_set HR6.out (HB6.out.apart HR6.out (by decide)) 1 (.slice (some ⟨g6, 0, none⟩) (k + 1) cap6)); have HO7 := Lib.hid (own_set HO6.out (HB6.out.apart HO6.out (by decide)) 1 (.slice (some ⟨g6, 0, none⟩) (k + 1) cap6))
                have HX7 := Lib.hid (HX6.out.setCell (p := ⟨b7, 1, none⟩) H7.out (.slice (some ⟨g6, 0, none⟩) (k + 1) cap6))
                clear HB6 HG6 HR6 HO6 HX6
                go_wp2
                go_roundw
                case rel => exact ⟨k + 1, _, _, _, by omega, by go_num, HX7.out, HB7.out, by rw [take_snoc HFKG.out]; exact HG7.out, HR7.out, HO7.out⟩
                case measure => simp [intOf]; omega
            · obtain ⟨G, hG⟩ : ∃ G : GateM, G = g := ⟨_, rfl⟩
              obtain ⟨A2, m2, c2, hA2, hm2, hc2⟩ : ∃ (A2 : Option Addr) (m2 c2 : Nat), A2 = A' ∧ m2 = m' ∧ c2 = c' := ⟨_, _, _, rfl, rfl, rfl⟩
              obtain ⟨wq, hwq⟩ : ∃ wq, wq = wa := ⟨_, rfl⟩
              have hbq : Box wq wr.heap.size 34 [I G.kind, I G.num, .slice A2 m2 c2] := by rw [hwq, hG, hA2, hm2, hc2]; exact HBA.out
              have hxq : Ext wr wq := by rw [hwq]; exact HXA.out
              have hsq : Sl wq A2 m2 (G.args.map I) := by rw [hG, hA2, hm2]; exact HSG.out.keep hxq.keeps
              have hfk : F[k]? = some G := by rw [hG]; exact HFK.out
              have hgl : G.args.length = m2 := hsq.len
              have hml : m2 ≤ 16 := by have := HML.out; omega
              have hov : ∀ Q, Ext wq Q → Calls Try.prog 107 #[gateV G.kind G.num A2 m2 c2] Q fun e w' => ∃ A' c', e = .returned (gateV G.kind G.num A' m2 c') ∧ w'.ownsRow Q.heap.size 3 1 (.slice A' m2 c') m2 (G.args.map I) ∧ Ext Q w' := fun Q hQ => own_any G.kind G.num A2 m2 c2 G.args Q (hsq.keep hQ.keeps) (by omega)
              have HWQ := Lib.hid hwq; have OW := Lib.hid hov; have HGL := Lib.hid hgl; have HFKG := Lib.hid hfk
              have HBXQ := Lib.hid (HBX.out.ext hxq); have HOGQ := Lib.hid (HOG.out.ext hxq); have HORQ := Lib.hid (own_ext HOR.out hxq); have HOOQ := Lib.hid (own_ext HOOO.out hxq); have HEQ := Lib.hid (HE.out.trans hxq)
              have G0 : Hid (wq.cell? ⟨wr.heap.size, 0, none⟩ = some (I G.kind)) := hbq.cell 0; have G1 : Hid (wq.cell? ⟨wr.heap.size, 1, none⟩ = some (I G.num)) := hbq.cell 1; have G2 : Hid (wq.cell? ⟨wr.heap.size, 2, none⟩ = some (.slice A2 m2 c2)) := hbq.cell 2
              have M1 : Hid (wq.cell? ⟨b7, 1, none⟩ = some (.slice A k c)) := HBXQ.out.cell 1
              have hcw := HXA.out.keeps _ _ hcv
              rw [HWA.out] at hcw
              clear hcv
              clear hG hwq hbq hxq hsq hfk hgl hov hA2 hm2 hc2
              go_wp2_with fail
              rw [← HWA.out]
              rw [← HWQ.out]
              clear hcw
              refine wp_flow4 5 3 [isV (.pointer (some ⟨b7, 1, none⟩)), isV (.slice A k c), isV (.agg #[I G.kind, I G.num, .slice A2 m2 c2]), fun v w => ∃ A c, v = .agg #[I G.kind, I G.num, .slice A m2 c] ∧ w.ownsRow wq.heap.size 3 1 (.slice A m2 c) m2 (G.args.map I), fun v w => ∃ b A c, v = .slice (some ⟨b, 0, none⟩) 1 1 ∧ Box w b 34 [I G.kind, I G.num, .slice A m2 c] ∧ w.ownsRow wq.heap.size 3 1 (.slice A m2 c) m2 (G.args.map I)] (by kernel_rfl) rfl rfl (by kernel_rfl) (by kernel_rfl) ⟨isV_mono, isV_mono, isV_mono, fun v w w' ⟨A, c, e, h⟩ hx => ⟨A, c, e, own_ext h hx⟩, fun v w w' ⟨b, A, c, e, h, k⟩ hx => ⟨b, A, c, e, h.ext hx, own_ext k hx⟩, trivial⟩ ?each ?rest
              case each =>
                refine .cons ?_ (.cons ?_ (.cons ?_ (.cons ?_ (.cons ?_ (.nil)))))
                · intro fa fw hx hs hb
                  have s7 : fa.tmps[(7 : Nat)]? = some (.pointer (some ⟨b7, 0, none⟩)) := (hb 7 (by kernel_rfl)).trans (by rfl)
                  refine .inl ⟨wanted_free rfl, fun K hK => ?_⟩
                  clear hs hb hx
                  go_simp
                  exact hK _ _ rfl (Ext.refl _)
                · intro fa fw hx hs hb
                  obtain ⟨_, s55, rfl⟩ := hs 0 55 (by kernel_rfl) (by kernel_rfl)
                  have c0 := hx.keeps _ _ M1.out
                  refine .inl ⟨wanted_free rfl, fun K hK => ?_⟩
                  clear hs hb hx
                  go_simp
                  exact hK _ _ rfl (Ext.refl _)
                · intro fa fw hx hs hb
                  have s9 : fa.tmps[(9 : Nat)]? = some (.pointer (some ⟨wr.heap.size, 0, none⟩)) := (hb 9 (by kernel_rfl)).trans (by rfl)
                  have c0 := hx.keeps _ _ G0.out
                  have c1 := hx.keeps _ _ G1.out
                  have c2 := hx.keeps _ _ G2.out
                  refine .inl ⟨wanted_free rfl, fun K hK => ?_⟩
                  clear hs hb hx
                  go_simp
                  exact hK _ _ rfl (Ext.refl _)
                · intro fa fw hx hs hb
                  obtain ⟨_, s57, rfl⟩ := hs 2 57 (by kernel_rfl) (by kernel_rfl)
                  refine .inl ⟨wanted_free rfl, fun K hK => ?_⟩
                  clear hs hb
                  go_simp
                  refine (OW.out fw hx).mono ?_
                  rintro e w' ⟨A', c', rfl, ho, xq⟩
                  exact hK _ _ ⟨A', c', rfl, own_base ho hx.size⟩ xq
                · intro fa fw hx hs hb
                  obtain ⟨_, s58, A58, c58, rfl, q58⟩ := hs 3 58 (by kernel_rfl) (by kernel_rfl)
                  refine .inl ⟨wanted_free rfl, fun K hK => ?_⟩
                  clear hs hb
                  go_simp
                  exact hK _ _ ⟨fw.heap.size, A58, c58, rfl, Box.new fw _ _, own_ext q58 ((Ext.refl fw).alloc _)⟩ ((Ext.refl _).alloc _)
              case rest =>
                intro w5 hxw5
                rintro _ rfl
                rintro _ rfl
                rintro _ rfl
                rintro _ ⟨A58, c58, rfl, q58⟩
                rintro _ ⟨b59, A59, c59, rfl, k59, q59⟩
                simp only [putAll, List.take, Act.put, List.setIfInBounds_toArray, List.set_cons_zero, List.set_cons_succ]
                obtain ⟨inf, hti, htz, hts1, hts2⟩ := info_parts tab_gate
                have hog5 := HOGQ.out.ext hxw5
                have hbx5 := HBXQ.out.ext hxw5
                refine wpAny_ready (rs := [5]) (by kernel_rfl) (by simp) (AllReady.cons rfl (fun KK hKK => ?_) AllReady.nil)
                refine step_append_lies _ rfl (.tmp 56) (.tmp 59) 22 rfl w2.heap.size 34 inf _ 3 40 Try.underlying22 hti htz hts1 hts2 rfl (by omega) (.slice A k c) k _ rfl (by have := hog5.row; rw [HLEN.out] at this; exact this) ⟨b59, 0, none⟩ 1 1 [I G.kind, I G.num, .slice A59 m2 c59] rfl rfl (fun j u hu => by rw [add_zero, k59.cell]; exact hu) (by simp [Value.oneCell']) (by omega) (by unfold maxLen; omega) (by omega) (HEQ.out.trans hxw5).size _ rfl ?_
                intro g6 cap6 w6 hown6 hgr6 _ _
                refine hKK _ _ ?_
                clear hKK KK
                have hog6 := HOGQ.out.push hxw5 HEQ.out.size (g := G) (v := .slice A59 m2 c59) (by rw [HGL.out]; exact q59) (by rw [HLEN.out]; exact hown6) hgr6
                have hrow : (Value.slice A k c).ownBlock ≠ some b7 := hbx5.apart hog5.row (by decide)
                have hbx6 := hbx5.kept hgr6 hrow
                have hor6 := (own_ext HORQ.out hxw5).kept hgr6 (own_types (own_ext HORQ.out hxw5) hog5.row (by decide))
                have hoo6 := (own_ext HOOQ.out hxw5).kept hgr6 (own_types (own_ext HOOQ.out hxw5) hog5.row (by decide))
                have hx6 : Ext w2 w6 := Below.grown (HEQ.out.trans hxw5) hgr6 (HEQ.out.trans hxw5).size (fun b hb => (hog5.row.lt b hb).1)
                have m1 := (hbx6.cell 1).trans rfl
                simp only [List.getElem?_cons_zero, List.getElem?_cons_succ] at m1
                have f6 := hbx6.free
                have HB6 := Lib.hid hbx6; have HG6 := Lib.hid hog6; have HR6 := Lib.hid hor6; have HO6 := Lib.hid hoo6; have HX6 := Lib.hid hx6
                clear hbx6 hog6 hor6 hoo6 hx6 hbx5 hog5 hrow hown6 hgr6 k59 q59 q58
                refine wpAny_ready (rs := [6]) (by kernel_rfl) (by simp) (AllReady.cons rfl (fun KK hKK => ?_) AllReady.nil)
                go_simp
                refine hKK _ _ ?_
                clear hKK KK
                refine wpAny_ready (rs := [7]) (by kernel_rfl) (by simp) (AllReady.cons rfl (fun KK hKK => ?_) AllReady.nil)
                go_simp
                refine hKK _ _ ?_
                clear hKK KK m1 f6
                refine wpAny_done (by kernel_rfl) ?_ _
                have HB7 := Lib.hid (HB6.out.set 1 (.slice (some ⟨g6, 0, none⟩) (k + 1) cap6)); have HG7 := Lib.hid (HG6.out.box HB6.out 1 (.slice (some ⟨g6, 0, none⟩) (k + 1) cap6))
                have HR7 := Lib.hid (own_set HR6.out (HB6.out.apart HR6.out (by decide)) 1 (.slice (some ⟨g6, 0, none⟩) (k + 1) cap6)); have HO7 := Lib.hid (own_set HO6.out (HB6.out.apart HO6.out (by decide)) 1 (.slice (some ⟨g6, 0, none⟩) (k + 1) cap6))
                have HX7 := Lib.hid (HX6.out.setCell (p := ⟨b7, 1, none⟩) H7.out (.slice (some ⟨g6, 0, none⟩) (k + 1) cap6))
                clear HB6 HG6 HR6 HO6 HX6
                go_wp2
                go_roundw
                case rel => exact ⟨k + 1, _, _, _, by omega, by go_num, HX7.out, HB7.out, by rw [take_snoc HFKG.out]; exact HG7.out, HR7.out, HO7.out⟩
                case measure => simp [intOf]; omega
          · obtain rfl : gn = k := by omega
            have ht : F.take gn = F := List.take_of_length_le (by rw [HFL.out]; exact Nat.le_refl _)
            rw [ht] at hog
            have hz := HZ2.out.ext hext
            have m0 := (hbx.cell 0).trans rfl; have m1 := (hbx.cell 1).trans rfl; have m2 := (hbx.cell 2).trans rfl; have m3 := (hbx.cell 3).trans rfl
            have n0 := (hz.cell 0).trans rfl; have n1 := (hz.cell 1).trans rfl; have n2 := (hz.cell 2).trans rfl; have n3 := (hz.cell 3).trans rfl
            simp only [List.getElem?_cons_zero, List.getElem?_cons_succ] at m0 m1 m2 m3 n0 n1 n2 n3
            have fz := hz.free
            have hzlt : (w.heap.size + 1) < w2.heap.size := HZ2.out.lt
            have hne : b7 ≠ w.heap.size + 1 := by have := H7.out; omega
            obtain ⟨w9, hw9⟩ : ∃ w9, w9 = (((wr.setCell ⟨w.heap.size + 1, 0, none⟩ (I m)).setCell ⟨w.heap.size + 1, 1, none⟩ (.slice A gn c)).setCell ⟨w.heap.size + 1, 2, none⟩ (.slice A36 rn c36)).setCell ⟨w.heap.size + 1, 3, none⟩ (.slice B36 on d36) := ⟨_, rfl⟩
            have hk9 : Box w9 (w.heap.size + 1) 26 [I m, .slice A gn c, .slice A36 rn c36, .slice B36 on d36] := by rw [hw9]; exact (((hz.set 0 (I m)).set 1 (.slice A gn c)).set 2 (.slice A36 rn c36)).set 3 (.slice B36 on d36)
            have ar := hz.apart hor (by decide); have ao := hz.apart hoo (by decide)
            have hr9 : w9.ownsRow w2.heap.size 78 2 (.slice A36 rn c36) rn (storeCs N.regs) := by rw [hw9]; exact own_set (own_set (own_set (own_set hor ar _ _) ar _ _) ar _ _) ar _ _
            have ho9 : w9.ownsRow w2.heap.size 3 1 (.slice B36 on d36) on (N.outs.map I) := by rw [hw9]; exact own_set (own_set (own_set (own_set hoo ao _ _) ao _ _) ao _ _) ao _ _
            have hg9 : OwnG w9 w2.heap.size (.slice A gn c) F vs := by
              rw [hw9]
              exact (((hog.box hz 0 (I m)).box (hz.set 0 (I m)) 1 (.slice A gn c)).box ((hz.set 0 (I m)).set 1 (.slice A gn c)) 2 (.slice A36 rn c36)).box (((hz.set 0 (I m)).set 1 (.slice A gn c)).set 2 (.slice A36 rn c36)) 3 (.slice B36 on d36)
            have hx9 : Ext w w9 := by
              have h0 : Ext w wr := (HX.out.trans X2.out).trans hext
              rw [hw9]; exact (((h0.setCell (p := ⟨w.heap.size + 1, 0, none⟩) (Nat.le_succ _) _).setCell (p := ⟨w.heap.size + 1, 1, none⟩) (Nat.le_succ _) _).setCell (p := ⟨w.heap.size + 1, 2, none⟩) (Nat.le_succ _) _).setCell (p := ⟨w.heap.size + 1, 3, none⟩) (Nat.le_succ _) _
            have hno : NetO w9 w2.heap.size m A gn c A36 rn c36 B36 on d36 (foldN N) vs := ⟨HIN.out, by rw [← HF.out]; exact HFL.out, by rw [← HF.out]; exact hg9, hr9, ho9⟩
            have HNO := Lib.hid hno; have HX9 := Lib.hid hx9; have HK9 := Lib.hid hk9; have HW9 := Lib.hid hw9
            clear hog hbx hor hoo hz ht hw9 hk9 ar ao hr9 ho9 hg9 hx9 hno hext hzlt
            go_wp2
            rw [← HW9.out]
            refine bodyPost_ret (v := Pr (netV m A gn c A36 rn c36 B36 on d36) (I 0)) ?_ rfl ⟨m, A, gn, c, A36, rn, c36, B36, on, d36, vs, rfl, HNO.out.base_le (HX.out.trans X2.out).size, HX9.out⟩
            have q0 := (HK9.out.cell 0).trans rfl; have q1 := (HK9.out.cell 1).trans rfl; have q2 := (HK9.out.cell 2).trans rfl; have q3 := (HK9.out.cell 3).trans rfl
            simp only [List.getElem?_cons_zero, List.getElem?_cons_succ] at q0 q1 q2 q3
            clear HNO HX9 HK9 HW9 m0 m1 m2 m3 n0 n1 n2 n3 fz
            simp [results, Try.results59, go_sem, q0, q1, q2, q3]
  · have hFR : foldR N = zeroN := by unfold foldR; rw [if_neg hc]
    rw [hFR]
    have hnz : (checkN N != 0) = true := by simpa using hc
    have hck := netCheck_any i GA gn gc RA rn rc OA on oc N W HN.out
    generalize checkN N = E at *
    have CK := Lib.hid hck
    clear hc hgl hrl hol hin hck hFR
    go_enter Try.func59, Try.ntmps59
    go_wp2_with fail
    rw [← HW.out]
    refine CK.out.mono ?_; rintro e w1 ⟨rfl, x1⟩
    have hz := HZ.out.ext x1
    have n0 := (hz.cell 0).trans rfl; have n1 := (hz.cell 1).trans rfl; have n2 := (hz.cell 2).trans rfl; have n3 := (hz.cell 3).trans rfl
    simp only [List.getElem?_cons_zero, List.getElem?_cons_succ] at n0 n1 n2 n3
    have fz := hz.free
    obtain ⟨w9, hw9⟩ : ∃ w9, w9 = (((w1.setCell ⟨w.heap.size + 1, 0, none⟩ (I 0)).setCell ⟨w.heap.size + 1, 1, none⟩ (.slice none 0 0)).setCell ⟨w.heap.size + 1, 2, none⟩ (.slice none 0 0)).setCell ⟨w.heap.size + 1, 3, none⟩ (.slice none 0 0) := ⟨_, rfl⟩
    have hk9 : Box w9 (w.heap.size + 1) 26 [I 0, .slice none 0 0, .slice none 0 0, .slice none 0 0] := by rw [hw9]; exact (((hz.set 0 (I 0)).set 1 (.slice none 0 0)).set 2 (.slice none 0 0)).set 3 (.slice none 0 0)
    have hx9 : Ext w w9 := by
      have h0 : Ext w w1 := HX.out.trans x1
      rw [hw9]; exact (((h0.setCell (p := ⟨w.heap.size + 1, 0, none⟩) (Nat.le_succ _) _).setCell (p := ⟨w.heap.size + 1, 1, none⟩) (Nat.le_succ _) _).setCell (p := ⟨w.heap.size + 1, 2, none⟩) (Nat.le_succ _) _).setCell (p := ⟨w.heap.size + 1, 3, none⟩) (Nat.le_succ _) _
    have HX9 := Lib.hid hx9; have HK9 := Lib.hid hk9; have HW9 := Lib.hid hw9
    clear hz hw9 hk9 hx9 x1 CK
    go_wp2
    rw [← HW9.out]
    refine bodyPost_ret (v := Pr (netV 0 none 0 0 none 0 0 none 0 0) (I E)) ?_ rfl ⟨0, none, 0, 0, none, 0, 0, none, 0, 0, [], rfl, NetO.zero _ _, HX9.out⟩
    have q0 := (HK9.out.cell 0).trans rfl; have q1 := (HK9.out.cell 1).trans rfl; have q2 := (HK9.out.cell 2).trans rfl; have q3 := (HK9.out.cell 3).trans rfl
    simp only [List.getElem?_cons_zero, List.getElem?_cons_succ] at q0 q1 q2 q3
    clear HX9 HK9 HW9 n0 n1 n2 n3 fz
    simp [results, Try.results59, go_sem, q0, q1, q2, q3]
end
end Go.Proofs.Ytjagbnaacfhokaa
/- append onto a new empty row; a gate of an own row set. -/
namespace Go.Proofs.Ytjagbnaacfhokaa
set_option linter.unusedVariables false
set_option linter.unusedSimpArgs false
open Go.RowKit

/-- append of all of a slice onto a row of no room that is the call's own: nothing that was there changes. -/
theorem wp_append0 {P : Program} (w : World) {o : Oper} {a : Act} {K : Act → World → Prop} {Q : Exit → Act → World → Prop} (s x : Operand) (t e : TypeId)
    (ho : o.op = .call { callee := .builtin .append, args := #[s, x], argTypes := #[t, t] })
    {z : Value} {size bytes : Nat} (tab : (P.info? e).map (fun i => (i.zero, i.size, i.bytes)) = some (some z, size, bytes)) (ht : P.underlying t = some (.slice e)) (hzs : z.cells.size = size) (hsz : 0 < size)
    (base b : Nat) (hbb : base ≤ b) (hbx : Box w b e []) (hs : a.eval s = .slice (some ⟨b, 0, none⟩) 0 0)
    (A : Option Addr) (m c : Nat) (news : List Value) (hx : a.eval x = .slice A m c) (hl : news.length = m * size) (hr : SlC w A news)
    (h63 : m ≤ maxLen) (hbytes : m * bytes ≤ 140737488355328)
    (h : ∀ v' w', w'.ownsRow base e size v' m news → Ext w w' → K (a.put o.dst v') w') : o.wp P a w K Q := by
  obtain ⟨i, hi, hz, hs1, hs2⟩ := info_parts tab
  have hbase : base ≤ w.heap.size := Nat.le_trans hbb (Nat.le_of_lt hbx.lt)
  have key : ∃ v' w', (Builtin.append_ #[t, t] o.type #[.slice (some ⟨b, 0, none⟩) 0 0, .slice A m c]).run P w = .ok v' w' ∧ w'.ownsRow base e size v' m news ∧ Ext w w' := by
    rcases Nat.eq_zero_or_pos m with hm0 | hmp
    · subst hm0
      have hn : news = [] := List.eq_nil_of_length_eq_zero (by simpa using hl)
      subst hn
      refine ⟨_, w, ?_, ⟨by simp, .inr ⟨b, 0, #[], rfl, hbb, hbx, Nat.le_refl _, Nat.zero_le _, by simp, by simp⟩⟩, Ext.refl w⟩
      simp [Builtin.append_, run_underlying ht, sizeOf, typeInfo, hi, Builtin.lenOf]
      cases A <;> simp [Builtin.firstCells, loadCells, loadCellsFrom, storeCells]
    · obtain ⟨b', off, rfl⟩ : ∃ b off, A = some ⟨b, off, none⟩ := by
        have hl' : 0 < news.length := by rw [hl]; exact Nat.mul_pos hmp hsz
        obtain ⟨b, off, e2, _⟩ := hr 0 _ (List.getElem?_eq_getElem hl')
        exact ⟨b, off, e2⟩
      have hcells : ∀ j u, news[j]? = some u → w.cell? ((⟨b', off, none⟩ : Addr).add j) = some u := by
        intro j u hu
        obtain ⟨b2, off2, e2, hc⟩ := hr j u hu
        injection e2 with e2; injection e2 with e2 e3
        subst e2; subst e3
        rw [add_plain']; exact hc
      have hm9 : m ≤ 9223372036854775807 := by unfold maxLen at h63; omega
      have hr0 := run_append_grow (P := P) w t o.type e i z ht hi hz ⟨b, 0, none⟩ 0 0 [] (by simp) (fun j u hu => by simp at hu) ⟨b', off, none⟩ m c news (by rw [hl, hs1]) hcells (by omega) (by omega) (by rw [hs2]; exact growslice_fits (by omega) (by simpa using hbytes))
      simp only [Nat.zero_add, List.nil_append] at hr0
      refine ⟨_, _, hr0, ⟨by rw [hl], .inr ⟨w.heap.size, _, _, rfl, hbase, heap_alloc_new w.drew _, by have := grownCap_ge w m 0 e; simpa using this, grownCap_le_maxLen w m 0 e h63, ?_, ?_⟩⟩, ((Ext.refl w).drew).alloc _⟩
      · have hge := grownCap_ge w m 0 e
        simp only [Array.size_append, List.size_toArray, size_zeroCells, hzs, hl, List.length_nil, Nat.zero_add, ← Nat.add_mul]
        congr 1
        omega
      · simp only [Array.toList_append, List.append_assoc, List.nil_append]
        rw [← hl]
        exact List.take_left
  obtain ⟨v', w', hrun, k1, k2⟩ := key
  unfold Oper.wp execOp
  simp only [ho, resolve, invoke, builtin, Sem.run_bind, Sem.run_pure, Result.andThen_ok, List.map_toArray, List.map_cons, List.map_nil, hs, hx, hrun]
  exact h v' w' k1 k2

theorem gateCs_set : ∀ (gs : List GateM) (vs : List Value) (k : Nat) (g : GateM) (v : Value), vs.length = gs.length → k < gs.length →
    gateCs (gs.set k g) (vs.set k v) = (((gateCs gs vs).set (k * 3) (I g.kind)).set (k * 3 + 1) (I g.num)).set (k * 3 + 2) v
  | [], _, k, g, v, _, hk => by simp at hk
  | x :: gs, [], k, g, v, h, _ => by simp at h
  | x :: gs, y :: vs, 0, g, v, _, _ => by simp [gateCs]
  | x :: gs, y :: vs, k + 1, g, v, h, hk => by
    have ih := gateCs_set gs vs k g v (by simpa using h) (by simpa using hk)
    simp only [List.set_cons_succ, gateCs]
    rw [ih, show (k + 1) * 3 = k * 3 + 3 from by omega, show k * 3 + 3 + 1 = (k * 3 + 1) + 3 from by omega, show k * 3 + 3 + 2 = (k * 3 + 2) + 3 from by omega]
    simp only [List.set_cons_succ]
/-- A gate of the row is set to one that has no args. -/
theorem OwnG.setGate {w : World} {base g n c : Nat} {gs : List GateM} {vs : List Value} (h : OwnG w base (.slice (some ⟨g, 0, none⟩) n c) gs vs) {k : Nat} (hk : k < gs.length) (kd : Int) :
    OwnG (((w.setCell ⟨g, k * 3, none⟩ (I kd)).setCell ⟨g, k * 3 + 1, none⟩ (I 0)).setCell ⟨g, k * 3 + 2, none⟩ (.slice none 0 0)) base (.slice (some ⟨g, 0, none⟩) n c) (gs.set k ⟨kd, 0, []⟩) (vs.set k (.slice none 0 0)) := by
  obtain ⟨A, c2, e, -, -, -⟩ := own_slice h.row
  injection e with e1 e2 e3
  subst e2
  have r0 := h.row
  have r1 := (r0.stored (k * 3) (I kd)).1
  have r2 := (r1.stored (k * 3 + 1) (I 0)).1
  have r3 := (r2.stored (k * 3 + 2) (.slice none 0 0)).1
  have hvl := h.vl
  refine ⟨by simp [hvl], ?_, fun j v x hv hx => ?_, fun j l u v hjl hu hv => ?_⟩
  · rw [gateCs_set gs vs k _ _ hvl hk]; simpa using r3
  · by_cases e : k = j
    · subst e
      rw [List.getElem?_set_self (by omega)] at hv
      rw [List.getElem?_set_self hk] at hx
      injection hv with hv; injection hx with hx
      subst hv; subst hx
      exact World.ownsRow_nil _ _ _ _
    · rw [List.getElem?_set_ne e] at hv hx
      have h1 := h.own j v x hv hx
      have hne : v.ownBlock ≠ some g := by
        rcases own_types h1 h.row (by decide) with q | q
        · rw [q]; intro hh; cases hh
        · simpa [Value.ownBlock] using q
      exact own_set (own_set (own_set h1 hne _ _) hne _ _) hne _ _
  · by_cases e : k = j
    · subst e
      rw [List.getElem?_set_self (by omega)] at hu
      injection hu with hu; subst hu
      exact .inl rfl
    · rw [List.getElem?_set_ne e] at hu
      by_cases e2 : k = l
      · subst e2
        rw [List.getElem?_set_self (by omega)] at hv
        injection hv with hv; subst hv
        cases hb : u.ownBlock with
        | none => exact .inl rfl
        | some b => right; intro hh; cases hh
      · rw [List.getElem?_set_ne e2] at hv
        exact h.apart j l u v hjl hu hv
end Go.Proofs.Ytjagbnaacfhokaa
/- A map of integers to integers that the call itself makes: its entries as a function. -/
namespace Go.Proofs.Ytjagbnaacfhokaa
set_option linter.unusedVariables false
set_option linter.unusedSimpArgs false
open Go.RowKit Go.Maps

/-- Block b is a map of at most n entries; at k stands f k (0 where there is none). -/
def MapI (w : World) (b n : Nat) (f : Int → Int) : Prop :=
  ∃ D : DataW Unit, w.ownsMap Try.prog 3 (plainElem Try.prog 3) b n D ∧ IsMap D ∧ ∀ k, D.atKey (.int .i64 k) (.lit (.int .i64 0)) = .lit (.int .i64 (f k))
theorem mapI_law : Keyed Try.prog 3 := int_keyed Try.underlying3
theorem MapI.made (w : World) : MapI (w.alloc (.map #[] 0)) w.heap.size 0 (fun _ => 0) := ⟨.map [], World.ownsMap_made _ _ _ _, isMap_empty, fun _ => rfl⟩
theorem isKeyI (k : Int) : WideAt.IsKeyLit (.int .i64 k) := by trivial
theorem zero_int (w : World) : (zeroValue 3).run Try.prog w = .ok (.int .i64 0) w := by kernel_rfl
section
variable {w w' : World} {b n : Nat} {f : Int → Int}
theorem MapI.lt (h : MapI w b n f) : b < w.heap.size := by obtain ⟨D, h1, -⟩ := h; exact h1.lt
theorem MapI.kept {row : Option Nat} (h : MapI w b n f) (hg : w.grownBy w' row) (hne : some b ≠ row) : MapI w' b n f := by
  obtain ⟨D, h1, h2, h3⟩ := h; exact ⟨D, h1.kept hg hne, h2, h3⟩
theorem MapI.ext (h : MapI w b n f) (hx : Ext w w') : MapI w' b n f := by
  obtain ⟨D, ⟨es, clock, hb, F, hs, hD⟩, h2, h3⟩ := h
  exact ⟨D, ⟨es, clock, (hx.block b (Array.getElem?_eq_some_iff.1 hb).1).trans hb, F, hs, hD⟩, h2, h3⟩
theorem MapI.set (h : MapI w b n f) {g : Nat} (hg : g ≠ b) (j : Nat) (v : Value) : MapI (w.setCell ⟨g, j, none⟩ v) b n f := h.kept (row := some g) ⟨rfl, rfl, rfl, by simp, fun k _ hk => heap_setCell_other w ⟨g, j, none⟩ k v (fun e => hk (by simp [e]))⟩ (by simpa using fun e => hg e.symm)
/-- A map's block is no row's and no box's. -/
theorem MapI.ne_row (h : MapI w b n f) {base : Nat} {e : TypeId} {size m : Nat} {v : Value} {xs : List Value} (ho : w.ownsRow base e size v m xs) : some b ≠ v.ownBlock := by
  obtain ⟨D, ⟨es, clock, hb, -⟩, -⟩ := h
  rcases ho.2 with ⟨rfl, _⟩ | ⟨g, cap, cur, rfl, _, hg, _⟩
  · simp [Value.ownBlock]
  · intro e1
    have e2 : b = g := Option.some.inj e1
    subst e2
    rw [hb] at hg; injection hg with hg; cases hg
theorem MapI.ne_box (h : MapI w b n f) {g : Nat} {T : TypeId} {cs : List Value} (hb : Box w g T cs) : g ≠ b := by
  obtain ⟨D, ⟨es, clock, hm, -⟩, -⟩ := h
  rintro rfl
  unfold Box at hb
  rw [hm] at hb; injection hb with hb; cases hb
end
theorem wpList_updateI {w : World} {ops : Array Oper} {rest : List Oper} {o : Oper} {a : Act} {Q : Exit → Act → World → Prop}
    (hg : o.guard = none) (m x v : Operand) (hop : o.op = Op.mapUpdate 124 m x v) (b n : Nat) (f : Int → Int) (hm : a.eval m = .map (some b)) (hown : MapI w b n f) (hn : n < maxLen)
    (k y : Int) (hx : a.eval x = I k) (hv : a.eval v = I y) (hk : (Lit.int .i64 k).wf = true) (hy : (Lit.int .i64 y).wf = true)
    (hK : ∀ w', MapI w' b (n + 1) (fun j => if j = k then y else f j) → w.grownBy w' (some b) → wpList Try.prog ops Q rest (a.put o.dst undef) w') :
    wpList Try.prog ops Q (o :: rest) a w := by
  obtain ⟨D, hD, hi, hf⟩ := hown
  refine wpList_plain hg fun K' hK' => ?_
  obtain ⟨w', hrun, r1, r2⟩ := hD.update mapI_law Try.underlying124 hn (keyOf_int_mk Try.underlying3 hk) (plainElem_int (H := Unit) Try.underlying3 hy)
  unfold Oper.wp
  simp [execOp, hop, hm, hx, hv, hrun, Result.andThen]
  refine hK' _ _ (hK w' ⟨_, r1, hi.put _ _, fun j => ?_⟩ r2)
  by_cases e : j = k
  · subst e; rw [atKey_put_same hi (isKeyI j)]; simp
  · rw [atKey_put_other (fun h => e (by injection h)), hf]; simp [e]
theorem wp_lookupI {w : World} {o : Oper} {a : Act} {K : Act → World → Prop} {Q : Exit → Act → World → Prop}
    (m x : Operand) (hop : o.op = Op.lookup 124 m x false) (b n : Nat) (f : Int → Int) (hm : a.eval m = .map (some b)) (hown : MapI w b n f)
    (k : Int) (hx : a.eval x = I k) (hk : (Lit.int .i64 k).wf = true) (l : Int) (hl : f k = l) (hK : K (a.put o.dst (I l)) w) : o.wp Try.prog a w K Q := by
  subst hl
  obtain ⟨D, hD, hi, hf⟩ := hown
  obtain ⟨c, hrun, hat, -⟩ := hD.lookup_int mapI_law Try.underlying124 Try.underlying3 (zero_int w) (keyOf_int_mk Try.underlying3 hk)
  rw [hf k] at hat
  injection hat with hat; injection hat with _ hat
  subst hat
  unfold Oper.wp
  simp [execOp, hop, hm, hx, hrun, Result.andThen]
  exact hK
theorem wpList_lookupI {w : World} {ops : Array Oper} {rest : List Oper} {o : Oper} {a : Act} {Q : Exit → Act → World → Prop}
    (hg : o.guard = none) (m x : Operand) (hop : o.op = Op.lookup 124 m x false) (b n : Nat) (f : Int → Int) (hm : a.eval m = .map (some b)) (hown : MapI w b n f)
    (k : Int) (hx : a.eval x = I k) (hk : (Lit.int .i64 k).wf = true) (l : Int) (hl : f k = l) (hK : wpList Try.prog ops Q rest (a.put o.dst (I l)) w) : wpList Try.prog ops Q (o :: rest) a w :=
  wpList_plain hg fun K' hK' => wp_lookupI m x hop b n f hm hown k hx hk l hl (hK' _ _ hK)
end Go.Proofs.Ytjagbnaacfhokaa
/- Args, stores and outs of an own net, set one by one. -/
namespace Go.Proofs.Ytjagbnaacfhokaa
set_option linter.unusedVariables false
set_option linter.unusedSimpArgs false
open Go.RowKit

theorem gateCs_args : ∀ (gs : List GateM) (vs : List Value) (k : Nat) (g g' : GateM), gs[k]? = some g → g'.kind = g.kind → g'.num = g.num → gateCs (gs.set k g') vs = gateCs gs vs
  | [], vs, k, g, g', h, _, _ => by simp at h
  | x :: gs, [], k, g, g', _, _, _ => by cases k <;> simp [gateCs]
  | x :: gs, y :: vs, 0, g, g', h, e1, e2 => by simp at h; subst h; simp [gateCs, e1, e2]
  | x :: gs, y :: vs, k + 1, g, g', h, e1, e2 => by simp only [List.set_cons_succ, gateCs, gateCs_args gs vs k g g' (by simpa using h) e1 e2]
theorem OwnG.setArg {w : World} {base : Nat} {s : Value} {gs : List GateM} {vs : List Value} (h : OwnG w base s gs vs) {k ab m c : Nat} {g : GateM} (hg : gs[k]? = some g) (hv : vs[k]? = some (.slice (some ⟨ab, 0, none⟩) m c)) (i : Nat) (x : Int) :
    OwnG (w.setCell ⟨ab, i, none⟩ (I x)) base s (gs.set k ⟨g.kind, g.num, g.args.set i x⟩) vs := by
  have hk : k < gs.length := (List.getElem?_eq_some_iff.1 hg).1
  have h1 := h.own k _ g hv hg
  have hm : m = g.args.length := by
    obtain ⟨A, c', e, -⟩ := own_slice h1
    injection e
  subst hm
  have hne : s.ownBlock ≠ some ab := by
    rcases own_types h.row h1 (by decide) with q | q
    · rw [q]; intro hh; cases hh
    · simpa [Value.ownBlock] using q
  refine ⟨by simp [h.vl], ?_, fun j v y hvj hyj => ?_, h.apart⟩
  · rw [gateCs_args gs vs k g ⟨g.kind, g.num, g.args.set i x⟩ hg rfl rfl, List.length_set]; exact own_set h.row hne _ _
  · by_cases e : k = j
    · subst e
      rw [List.getElem?_set_self hk] at hyj
      injection hyj with hyj; subst hyj
      rw [hv] at hvj; injection hvj with hvj; subst hvj
      have := (h1.stored i (I x)).1
      simp only [List.length_set]
      rw [← List.map_set] at this
      exact this
    · rw [List.getElem?_set_ne e] at hyj
      have h2 := h.own j v y hvj hyj
      refine own_set h2 ?_ _ _
      rcases h.apart j k v _ (fun q => e q.symm) hvj hv with q | q
      · rw [q]; intro hh; cases hh
      · simpa [Value.ownBlock] using q
theorem OwnG.out {w : World} {base base' n m : Nat} {s : Value} {gs : List GateM} {vs xs : List Value} {ob c : Nat} (h : OwnG w base s gs vs) (ho : w.ownsRow base' 3 1 (.slice (some ⟨ob, 0, none⟩) n c) m xs) (ha : ∀ v ∈ vs, v.ownBlock ≠ some ob) (k : Nat) (u : Value) : OwnG (w.setCell ⟨ob, k, none⟩ u) base s gs vs := by
  refine h.kept (row := some ob) ⟨rfl, rfl, rfl, by simp, fun i _ hi => heap_setCell_other w ⟨ob, k, none⟩ i u (fun e => hi (by simp [e]))⟩ ?_ fun v hv => .inr (ha v hv)
  rcases own_types h.row ho (by decide) with q | q
  · exact .inl q
  · exact .inr (by simpa [Value.ownBlock] using q)
theorem OwnG.reg {w : World} {base base' n m : Nat} {s : Value} {gs : List GateM} {vs xs : List Value} {rb c : Nat} (h : OwnG w base s gs vs) (ho : w.ownsRow base' 78 2 (.slice (some ⟨rb, 0, none⟩) n c) m xs) (k : Nat) (u : Value) : OwnG (w.setCell ⟨rb, k, none⟩ u) base s gs vs := by
  refine h.kept (row := some rb) ⟨rfl, rfl, rfl, by simp, fun i _ hi => heap_setCell_other w ⟨rb, k, none⟩ i u (fun e => hi (by simp [e]))⟩ ?_ fun v hv => ?_
  · rcases own_types h.row ho (by decide) with q | q
    · exact .inl q
    · exact .inr (by simpa [Value.ownBlock] using q)
  · obtain ⟨j, hj⟩ := List.mem_iff_getElem?.1 hv
    have hk : j < gs.length := by have := h.vl; have := (List.getElem?_eq_some_iff.1 hj).1; omega
    rcases own_types (h.own j v _ hj (List.getElem?_eq_getElem hk)) ho (by decide) with q | q
    · exact .inl q
    · exact .inr (by simpa [Value.ownBlock] using q)
theorem storeCs_set : ∀ (rs : List StoreM) (k : Nat) (r : StoreM) (y : Int), rs[k]? = some r → (storeCs rs).set (k * 2 + 1) (I y) = storeCs (rs.set k ⟨r.fst, y⟩)
  | [], k, r, y, h => by simp at h
  | x :: rs, 0, r, y, h => by simp at h; subst h; simp [storeCs]
  | x :: rs, k + 1, r, y, h => by
    have ih := storeCs_set rs k r y (by simpa using h)
    have e : storeCs (x :: rs) = RB x :: RN x :: storeCs rs := by simp [storeCs]
    rw [e, show (k + 1) * 2 + 1 = k * 2 + 1 + 2 from by omega]
    simp only [List.set_cons_succ, ih]
    simp [storeCs]
theorem wf_small {a : Int} (h0 : 0 ≤ a) (h1 : a ≤ 1000000) : (Lit.int .i64 a).wf = true := by
  simp [Lit.wf, IntKind.min, IntKind.max, IntKind.signed, IntKind.bits]; omega
/-- A list, the first k of which are turned. -/
def mixA {α : Type} (f : α → α) (k : Nat) (l : List α) : List α := (l.take k).map f ++ l.drop k
theorem mixA_zero {α : Type} (f : α → α) (l : List α) : mixA f 0 l = l := by simp [mixA]
theorem mixA_all {α : Type} (f : α → α) {l : List α} {n : Nat} (h : l.length = n) : mixA f n l = l.map f := by
  unfold mixA; rw [List.take_of_length_le (by omega), List.drop_eq_nil_of_le (by omega)]; simp
theorem mixA_at {α : Type} (f : α → α) {l : List α} {k : Nat} {x : α} (h : l[k]? = some x) : (mixA f k l)[k]? = some x := by
  have hk : k < l.length := (List.getElem?_eq_some_iff.1 h).1
  unfold mixA
  rw [List.getElem?_append_right (by simp; omega)]
  have e : k - ((l.take k).map f).length = 0 := by simp; omega
  rw [e, List.getElem?_drop, Nat.add_zero]; exact h
theorem mixA_set {α : Type} (f : α → α) {l : List α} {k : Nat} {x : α} (h : l[k]? = some x) : (mixA f k l).set k (f x) = mixA f (k + 1) l := by
  have hk : k < l.length := (List.getElem?_eq_some_iff.1 h).1
  have hx : l[k] = x := by rw [List.getElem?_eq_getElem hk] at h; exact Option.some.inj h
  unfold mixA
  have e : k - ((l.take k).map f).length = 0 := by simp; omega
  rw [List.set_append_right _ _ (by simp; omega), e, List.drop_eq_getElem_cons hk, List.set_cons_zero, List.take_add_one, h, List.map_append, List.append_assoc]; rfl
theorem mixA_len {α : Type} (f : α → α) (k : Nat) (l : List α) : (mixA f k l).length = l.length := by unfold mixA; simp; omega
theorem keepGs_map (f : GateM → GateM) : ∀ (gs : List GateM) (l : List Bool), keepGs f gs l = (keepGs id gs l).map f
  | [], _ => rfl
  | _ :: _, [] => rfl
  | g :: gs, b :: l => by simp only [keepGs]; split <;> simp [keepGs_map f gs l]
theorem mem_keepGs {gs : List GateM} {l : List Bool} {x : GateM} (h : x ∈ keepGs id gs l) : ∃ k : Nat, gs[k]? = some x ∧ l[k]? = some true := by
  induction gs generalizing l with
  | nil => simp [keepGs] at h
  | cons g gs ih =>
    cases l with
    | nil => simp [keepGs] at h
    | cons b l =>
      simp only [keepGs] at h
      cases b with
      | false => obtain ⟨k, h1, h2⟩ := ih (by simpa using h); exact ⟨k + 1, by simpa using h1, by simpa using h2⟩
      | true =>
        simp only [if_true, List.mem_cons] at h
        rcases h with h | h
        · exact ⟨0, by simp [h], by simp⟩
        · obtain ⟨k, h1, h2⟩ := ih h; exact ⟨k + 1, by simpa using h1, by simpa using h2⟩
end Go.Proofs.Ytjagbnaacfhokaa
/- Package prog walked. -/
namespace Go.Proofs.Ytjagbnaacfhokaa
set_option linter.unusedVariables false
set_option linter.unusedSimpArgs false
open Go.RowKit

abbrev PK (x : PNode) : Value := I x.kind
abbrev PS (x : PNode) : Value := I x.sig
/-- A list of nodes, as a slice. -/
abbrev SlN := Sl2 PK PS

end Go.Proofs.Ytjagbnaacfhokaa
/- prog.Of, prog.Parts. -/
namespace Go.Proofs.Ytjagbnaacfhokaa
set_option linter.unusedVariables false
set_option linter.unusedSimpArgs false
open Go.RowKit

end Go.Proofs.Ytjagbnaacfhokaa
