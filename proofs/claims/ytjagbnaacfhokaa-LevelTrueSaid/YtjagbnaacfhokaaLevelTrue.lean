/- The body of LevelTrue, from the contracts. -/
import Derived.Test.YtjagbnaacfhokaaLevelBegun
namespace Go.Proofs.Ytjagbnaacfhokaa
set_option linter.unusedVariables false
set_option linter.unusedSimpArgs false
open Go.RowKit

theorem orderV_ok {N : NetM} (h : (orderV N).2 = 0) : checkN N = 0 ∧ ∃ l, orderM N.gates = some l ∧ orderV N = (l, 0) := by
  unfold orderV at h ⊢
  by_cases h0 : checkN N = 0
  · rw [if_neg (by simp [h0])] at h ⊢
    cases hO : orderM N.gates with
    | none => rw [hO] at h; cases h
    | some l => exact ⟨h0, l, rfl, rfl⟩
  · rw [if_pos h0] at h; exact absurd h h0
theorem levelV_ok {N : NetM} {regs ins : List Int} (h : (levelV N regs ins).2 = 0) : askedM N regs ins = 0 ∧ levelV N regs ins = (settledM N.gates regs ins, 0) := by
  unfold levelV at h ⊢
  by_cases h0 : askedM N regs ins = 0
  · rw [if_neg (by simp [h0])] at h ⊢
    cases hO : orderM N.gates with
    | none => rw [hO] at h; cases h
    | some l => exact ⟨h0, rfl⟩
  · rw [if_pos h0] at h; exact absurd h h0
theorem drop_any {α : Type} [BEq α] (l : List α) (q : Nat) (x y : α) (h : l.drop q = x :: l.drop (q + 1)) : (l.drop q).contains y = (y == x || (l.drop (q + 1)).contains y) := by rw [h, List.contains_cons]
section
variable (i : Int) (GA : Option Addr) (gn gc : Nat) (RA : Option Addr) (rn rc : Nat) (OA : Option Addr) (on oc : Nat) (N : NetM) (RB : Option Addr) (pn pc : Nat) (IA : Option Addr) (jn jc : Nat) (regs ins : List Int) (w : World)

set_option maxRecDepth 100000 in
set_option maxHeartbeats 8000000 in
theorem levelTrue_walk (h : NetC w i GA gn gc RA rn rc OA on oc N) (hr : Sl w RB pn (regs.map I)) (hi : Sl w IA jn (ins.map I)) (hpm : pn ≤ maxLen) (hjm : jn ≤ maxLen) :
    Calls Try.prog 7 #[netV i GA gn gc RA rn rc OA on oc, .slice RB pn pc, .slice IA jn jc] w fun e w' => e = .returned (.bool true) ∧ Ext w w' := by
  obtain ⟨W, hW⟩ : ∃ W, W = w.alloc (.cells #[I i, .slice GA gn gc, .slice RA rn rc, .slice OA on oc] 26) := ⟨_, rfl⟩
  have hxW : Ext w W := by rw [hW]; exact (Ext.refl _).alloc _
  have hbox : NetBox W w.heap.size i GA gn gc RA rn rc OA on oc := by rw [hW]; exact NetBox.new w i GA gn gc RA rn rc OA on oc _
  have hgl : N.gates.length = gn := h.gates.1
  have hsz : w.heap.size < W.heap.size := by rw [hW]; simp
  have HN := Lib.hid (h.keep hxW.keeps); have HBox := Lib.hid hbox; have HW := Lib.hid hW; have HX := Lib.hid hxW; have HSZ := Lib.hid hsz
  have HR := Lib.hid (hr.keep hxW.keeps); have HI := Lib.hid (hi.keep hxW.keeps)
  clear h hW hxW hbox hr hi hsz
  have hob := @orderV_ok N
  generalize hM : orderV N = M at hob
  have HM := Lib.hid hM; clear hM
  by_cases he : M.2 = 0
  · obtain ⟨hck, l, hO, rfl⟩ := hob he
    have ok := checkN_ok hck
    have hg200 : gn ≤ 200 := by have := ok.gl; omega
    obtain ⟨hll, hord⟩ := orderM_ord hO
    rw [hgl] at hll hord
    have HOK := Lib.hid ok; have HLL := Lib.hid hll; have HORD := Lib.hid hord; have HO := Lib.hid hO
    clear hob hck ok hll hord hO he
    have hmk := fun Q => run_make1 (P := Try.prog) 27 4 tab_bool Try.underlying27 rfl gn (by omega) (by omega) Q
    go_enter Try.func7, Try.ntmps7
    go_wp2_with fail
    rw [← HW.out]
    refine (order_any i GA gn gc RA rn rc OA on oc N W HN.out).mono ?_; rintro e w1 ⟨v, rfl, hown, x1⟩
    rw [HM.out] at hown ⊢
    simp only [HLL.out] at hown
    obtain ⟨LA, c, rfl, h1, h2, hs⟩ := own_sl hown
    obtain ⟨q0, q1, q2, q3⟩ := HBox.out.keep x1.keeps
    have hlow : ∀ p, LA = some p → W.heap.size ≤ p.block := fun p e => by subst e; exact (hown.lt p.block (by obtain ⟨pb, po, ps⟩ := p; rfl)).1
    have hown0 : (w1.alloc (.cells (zeros (.bool false) gn) 4)).ownsRow w1.heap.size 4 1 (.slice (some ⟨w1.heap.size, 0, none⟩) gn gn) gn ((List.replicate gn false).map Bv) := by
      have := own_made w1 4 (.bool false) gn w1.heap.size (Nat.le_refl _) (by unfold maxLen; omega)
      rw [show (List.replicate gn false).map Bv = List.replicate gn (.bool false) from by simp]; exact this
    have X1 := Lib.hid x1; have S1 := Lib.hid hs; have HO0 := Lib.hid hown0
    unfold maxLen at h2
    clear x1 hs hown hown0
    go_wp2_with fail
    clear hmk
    go_loopw [10] (fun j wr => ∃ (k : Nat) (o : List Bool), k ≤ gn ∧ j = .int .i64 k ∧ Ext w1 wr ∧ wr.ownsRow w1.heap.size 4 1 (.slice (some ⟨w1.heap.size, 0, none⟩) gn gn) gn (o.map Bv) ∧ o.length = gn ∧ OrdM N.gates o (l.drop k)) (fun j _ => gn - (intOf j).toNat)
    case atStart => exact ⟨0, List.replicate gn false, Nat.zero_le _, rfl, (Ext.refl _).alloc _, HO0.out, by simp, HORD.out⟩
    case round =>
      obtain ⟨k, o, hk, rfl, hext, hv, hol, hOr⟩ := hrel
      by_cases hlt : k < gn
      · obtain ⟨bL, oL, x, rfl, hcL, hdL⟩ := (S1.out.keep hext.keeps).next hlt
        rw [hdL] at hOr
        obtain ⟨hx0, ⟨g, hg, hon, had⟩, hOr2⟩ := hOr
        obtain ⟨j, rfl⟩ : ∃ j : Nat, x = j := ⟨x.toNat, by omega⟩
        rw [Int.toNat_natCast] at hg hOr2
        have hjl : j < gn := by have := (List.getElem?_eq_some_iff.1 hg).1; omega
        obtain ⟨b, offg, A', m, c', gt, rfl, g0, g1, g2, hsg, hmc, hcm2, hd, hgt⟩ := HN.out.gates.next hjl
        obtain rfl : g = gt := by rw [hg] at hgt; exact Option.some.inj hgt
        have hxw := X1.out.trans hext
        have k0 := hxw.keeps _ _ g0; have k1 := hxw.keeps _ _ g1; have k2 := hxw.keeps _ _ g2
        have q1' := (HBox.out.keep hxw.keeps).2.1
        have hgr := HOK.out.gate (List.mem_of_getElem? hg)
        rw [hgl] at hgr
        have hml := hsg.len
        have hm16 : m ≤ 16 := by have := hgr.al; omega
        obtain ⟨⟨u, hu, hcv⟩, hfv, -⟩ := own_at hv hjl
        rw [List.getElem?_map] at hu
        obtain ⟨y, hy, rfl⟩ : ∃ y, o[j]? = some y ∧ u = Bv y := by
          cases hz : o[j]? with
          | none => rw [hz] at hu; cases hu
          | some y => rw [hz] at hu; exact ⟨y, rfl, by simpa using hu.symm⟩
        obtain rfl : y = false := by rw [onI_nth hy] at hon; exact hon
        have HS := Lib.hid (hsg.keep hxw.keeps); have HGR := Lib.hid hgr; have HML := Lib.hid hml; have HAD := Lib.hid had; have HOR2 := Lib.hid hOr2; have HV := Lib.hid hv; have HOL := Lib.hid hol; have HE := Lib.hid hext
        have K0 := Lib.hid k0; have K1 := Lib.hid k1; have K2 := Lib.hid k2; have Q1 := Lib.hid q1'; have CL := Lib.hid hcL
        clear hsg hgr hml had hOr2 hv hol hext k0 k1 k2 q1' g0 g1 g2 hg hon hgt hd hu hy hmc hx0 hdL hxw
        obtain ⟨wA, hwA⟩ : ∃ q, q = wr := ⟨_, rfl⟩
        subst hwA
        go_upto_region 12 with fail
        clear hcv hfv hcL
        refine wp_flow3 9 1 [isV (.pointer (some ⟨w.heap.size, 1, none⟩)), isV (.slice (some ⟨b, offg, none⟩) gn gc), isV (.slice (some ⟨bL, oL, none⟩) gn c), isV (.int .i64 k), isV (.pointer (some ⟨bL, oL + k, none⟩)), isV (.int .i64 j), isV (.pointer (some ⟨b, offg + j * 3, none⟩)), isV (.agg #[I g.kind, I g.num, .slice A' m c']), fun v w => ∃ b, v = .pointer (some ⟨b, 0, none⟩) ∧ wA.heap.size ≤ b ∧ w.cell? ⟨b, 0, none⟩ = some (I 0) ∧ w.cell? ⟨b, 1, none⟩ = some (I 0) ∧ w.cell? ⟨b, 2, none⟩ = some (.slice none 0 0) ∧ w.frozen? ⟨b, 0, none⟩ = false ∧ w.frozen? ⟨b, 1, none⟩ = false ∧ w.frozen? ⟨b, 2, none⟩ = false] (by kernel_rfl) rfl rfl (by kernel_rfl) (by kernel_rfl) ⟨isV_mono, isV_mono, isV_mono, isV_mono, isV_mono, isV_mono, isV_mono, isV_mono, fun v w w' ⟨b, e, h0, h1, h2, h3, h4, h5, h6⟩ hx => ⟨b, e, h0, hx.keeps _ _ h1, hx.keeps _ _ h2, hx.keeps _ _ h3, (Below.frozen (p := ⟨b, 0, none⟩) hx (lt_of_cell h1)).trans h4, (Below.frozen (p := ⟨b, 1, none⟩) hx (lt_of_cell h2)).trans h5, (Below.frozen (p := ⟨b, 2, none⟩) hx (lt_of_cell h3)).trans h6⟩, trivial⟩ ?each ?rest
        case each =>
          refine .cons ?_ (.cons ?_ (.cons ?_ (.cons ?_ (.cons ?_ (.cons ?_ (.cons ?_ (.cons ?_ (.cons ?_ (.nil)))))))))
          · intro fa fw hx hs hb
            have s3 : fa.tmps[(3 : Nat)]? = some (.pointer (some ⟨w.heap.size, 0, none⟩)) := (hb 3 (by kernel_rfl)).trans (by rfl)
            refine .inl ⟨wanted_free rfl, fun K hK => ?_⟩
            clear hs hb hx
            go_simp
            exact hK _ _ rfl (Ext.refl _)
          · intro fa fw hx hs hb
            obtain ⟨_, s65, rfl⟩ := hs 0 65 (by kernel_rfl) (by kernel_rfl)
            have c0 := hx.keeps _ _ Q1.out
            refine .inl ⟨wanted_free rfl, fun K hK => ?_⟩
            clear hs hb hx
            go_simp
            exact hK _ _ rfl (Ext.refl _)
          · intro fa fw hx hs hb
            have s7 : fa.tmps[(7 : Nat)]? = some (.slice (some ⟨bL, oL, none⟩) gn c) := (hb 7 (by kernel_rfl)).trans (by rfl)
            refine .inl ⟨wanted_free rfl, fun K hK => ?_⟩
            clear hs hb hx
            go_simp
            exact hK _ _ rfl (Ext.refl _)
          · intro fa fw hx hs hb
            have s10 : fa.tmps[(10 : Nat)]? = some (.int .i64 k) := (hb 10 (by kernel_rfl)).trans (by rfl)
            refine .inl ⟨wanted_free rfl, fun K hK => ?_⟩
            clear hs hb hx
            go_simp
            exact hK _ _ rfl (Ext.refl _)
          · intro fa fw hx hs hb
            obtain ⟨_, s67, rfl⟩ := hs 2 67 (by kernel_rfl) (by kernel_rfl)
            obtain ⟨_, s68, rfl⟩ := hs 3 68 (by kernel_rfl) (by kernel_rfl)
            refine .inl ⟨wanted_free rfl, fun K hK => ?_⟩
            clear hs hb hx
            go_simp
            exact hK _ _ rfl (Ext.refl _)
          · intro fa fw hx hs hb
            obtain ⟨_, s69, rfl⟩ := hs 4 69 (by kernel_rfl) (by kernel_rfl)
            have c0 := hx.keeps _ _ CL.out
            refine .inl ⟨wanted_free rfl, fun K hK => ?_⟩
            clear hs hb hx
            go_simp
            exact hK _ _ rfl (Ext.refl _)
          · intro fa fw hx hs hb
            obtain ⟨_, s66, rfl⟩ := hs 1 66 (by kernel_rfl) (by kernel_rfl)
            obtain ⟨_, s70, rfl⟩ := hs 5 70 (by kernel_rfl) (by kernel_rfl)
            refine .inl ⟨wanted_free rfl, fun K hK => ?_⟩
            clear hs hb hx
            go_simp
            exact hK _ _ rfl (Ext.refl _)
          · intro fa fw hx hs hb
            obtain ⟨_, s71, rfl⟩ := hs 6 71 (by kernel_rfl) (by kernel_rfl)
            have c0 := hx.keeps _ _ K0.out
            have c1 := hx.keeps _ _ K1.out
            have c2 := hx.keeps _ _ K2.out
            refine .inl ⟨wanted_free rfl, fun K hK => ?_⟩
            clear hs hb hx
            go_simp
            exact hK _ _ rfl (Ext.refl _)
          · intro fa fw hx hs hb
            refine .inl ⟨wanted_free rfl, fun K hK => ?_⟩
            clear hs hb
            go_simp
            exact hK _ _ ⟨_, rfl, hx.size, by rw [World.cell?_alloc_new]; rfl, by rw [World.cell?_alloc_new]; rfl, by rw [World.cell?_alloc_new]; rfl, World.frozen?_alloc_at _ _ _ _ rfl, World.frozen?_alloc_at _ _ _ _ rfl, World.frozen?_alloc_at _ _ _ _ rfl⟩ ((Ext.refl _).alloc _)
        case rest =>
          intro w2 hxw2
          rintro _ rfl
          rintro _ rfl
          rintro _ rfl
          rintro _ rfl
          rintro _ rfl
          rintro _ rfl
          rintro _ rfl
          rintro _ rfl
          rintro _ ⟨b11, rfl, q11⟩
          simp only [putAll, List.take, Act.put, List.setIfInBounds_toArray, List.set_cons_zero, List.set_cons_succ]
          obtain ⟨y0, y1, y2, y3, y4, y5, y6⟩ := q11
          refine wpAny_ready (rs := [9]) (by kernel_rfl) (by simp) (AllReady.cons rfl (fun KK hKK => ?_) AllReady.nil)
          go_simp
          refine hKK _ _ ?_
          clear hKK KK
          refine wpAny_done (by kernel_rfl) ?_ _
          obtain ⟨wS, hwS⟩ : ∃ wS, wS = ((w2.setCell ⟨b11, 0, none⟩ (I g.kind)).setCell ⟨b11, 1, none⟩ (I g.num)).setCell ⟨b11, 2, none⟩ (.slice A' m c') := ⟨_, rfl⟩
          have hb1 : w1.heap.size < b11 := by have h3 := (HV.out.lt w1.heap.size rfl).2; omega
          have z2 : wS.cell? ⟨b11, 2, none⟩ = some (.slice A' m c') := by
            rw [hwS]
            exact World.cell?_setCell_same _ _ _ ((World.cell?_setCell_other _ _ _ _ (by simp)).trans ((World.cell?_setCell_other _ _ _ _ (by simp)).trans y3))
          have hxS : Ext wA wS := by rw [hwS]; exact ((hxw2.setCell y0 _).setCell y0 _).setCell y0 _
          have hvS : wS.ownsRow w1.heap.size 4 1 (.slice (some ⟨w1.heap.size, 0, none⟩) gn gn) gn (o.map Bv) := own_ext HV.out hxS
          rw [← hwS]
          have Z2 := Lib.hid z2; have HXS := Lib.hid (HE.out.trans hxS); have HXAS := Lib.hid hxS; have HVS := Lib.hid hvS
          clear y0 y1 y2 y3 y4 y5 y6 hwS hxS hvS hxw2 HV HE hb1
          go_wp2_with fail
          go_loopw [12] (fun j wr2 => ∃ q : Nat, q ≤ m ∧ j = .int .i64 q ∧ wr2 = wS) (fun j _ => m - (intOf j).toNat)
          case atStart => exact ⟨0, Nat.zero_le _, rfl, rfl⟩
          case round =>
            obtain ⟨q, hq, rfl, hw4⟩ := hrel
            replace hw4 := hw4.symm
            subst hw4
            have z2 := Z2.out
            by_cases hltq : q < m
            · obtain ⟨b3, off3, x, rfl, hc3, hx3⟩ := (HS.out.keep HXAS.out.keeps).at_ hltq
              have hxm : x ∈ g.args := List.mem_of_getElem? hx3
              obtain ⟨hx0, hx1⟩ := HGR.out.args x hxm
              obtain ⟨a, rfl⟩ : ∃ a : Nat, x = a := ⟨x.toNat, by omega⟩
              have ha : a < gn := by omega
              obtain ⟨⟨u, hu, hcw⟩, hfw, -⟩ := own_at HVS.out ha
              rw [List.getElem?_map] at hu
              obtain ⟨z, hz, rfl⟩ : ∃ z, o[a]? = some z ∧ u = Bv z := by
                cases hz : o[a]? with
                | none => rw [hz] at hu; cases hu
                | some z => rw [hz] at hu; exact ⟨z, rfl, by simpa using hu.symm⟩
              obtain rfl : z = true := by
                have := HAD.out
                unfold argsDone at this; rw [List.all_eq_true] at this
                have := this _ hxm
                rw [onI_nth hz] at this; exact this
              clear hu hx3 hz hxm
              go_wp2
              go_roundw
              case rel => exact ⟨q + 1, by omega, by go_num, by first | rfl | trivial⟩
              case measure => simp [intOf]; omega
            · obtain ⟨⟨u, hu, hcw⟩, hfw, -⟩ := own_at HVS.out hjl
              have hst := (HVS.out.stored j (Bv true)).1
              rw [← List.map_set] at hst
              have hx9 : Ext w1 (wS.setCell ⟨w1.heap.size, j, none⟩ (Bv true)) := HXS.out.setCell (by exact Nat.le_refl _) _
              have hl9 : (o.set j true).length = gn := by simpa using HOL.out
              have hc9 := HXAS.out.keeps _ _ CL.out
              have HST := Lib.hid hst; have HX9 := Lib.hid hx9; have HL9 := Lib.hid hl9
              clear hst hx9 hl9 hu z2
              go_wp2
              go_roundw
              case rel => exact ⟨k + 1, o.set j true, by omega, by go_num, HX9.out, HST.out, HL9.out, HOR2.out⟩
              case measure => simp [intOf]; omega
      · have hkn : k = gn := by omega
        subst hkn
        have HE := Lib.hid (X1.out.trans hext)
        clear hv hol hOr hext hlt hk
        obtain ⟨q0, q1, q2, q3⟩ := HBox.out.keep HE.out.keeps
        obtain ⟨wA, hwA⟩ : ∃ q, q = wr := ⟨_, rfl⟩
        subst hwA
        go_wp2_with fail
        refine (levelStep_any i GA k gc RA rn rc OA on oc N RB pn pc IA jn jc regs ins wA (HN.out.keep HE.out.keeps) (HR.out.keep HE.out.keeps) (HI.out.keep HE.out.keeps) hpm hjm).mono ?_; rintro e w4 ⟨v, rfl, hown, x4⟩
        have hlv := @levelV_ok N regs ins
        generalize hT : levelV N regs ins = T at *
        obtain ⟨VA, vc, rfl, hv1, hv2, hvs⟩ := own_sl hown
        have X4 := Lib.hid (HE.out.trans x4); have VS := Lib.hid hvs; have HT := Lib.hid hT
        clear hown x4 hvs hT q0 q1 q2 q3
        by_cases hf : T.2 = 0
        · obtain ⟨hask, rfl⟩ := hlv hf
          have ak := askedM_ok hask
          have hshut : ∀ op : Bool, op = (regs.contains 2 || ins.contains 2) → op = false → (2 : Int) ∉ settledM N.gates regs ins := fun op h1 h2 => by
            rw [h2] at h1
            have h1 := h1.symm
            simp only [Bool.or_eq_false_iff] at h1
            exact order_shut HOK.out.okArgs HO.out ak.rg ak.ig (by have := h1.1; simpa using this) (by have := h1.2; simpa using this)
          have HSH := Lib.hid hshut
          have hpn := HR.out.len; have hjn := HI.out.len
          have HR4 := Lib.hid (HR.out.keep X4.out.keeps); have HI4 := Lib.hid (HI.out.keep X4.out.keeps)
          unfold maxLen at hpm hjm hv2
          simp only at hv1 VS ⊢
          generalize hSV : settledM N.gates regs ins = SV at *
          clear hlv hf hask ak hshut hSV
          go_wp2_with fail
          go_loopw [15, 16] (fun t j wr5 => ∃ (q : Nat) (b : Bool), q ≤ pn ∧ j = .int .i64 q ∧ t = .bool b ∧ wr5 = w4 ∧ (b || (regs.drop q).contains 2) = regs.contains 2) (fun _ j _ => pn - (intOf j).toNat)
          case atStart => exact ⟨0, false, Nat.zero_le _, rfl, rfl, rfl, by simp⟩
          case round =>
            obtain ⟨q, b, hq, rfl, rfl, hw5, hb⟩ := hrel
            replace hw5 := hw5.symm
            subst hw5
            by_cases hlt : q < pn
            · obtain ⟨b5, o5, x, rfl, hc5, hd5⟩ := HR4.out.next hlt
              rw [drop_any _ _ _ _ hd5] at hb
              have HB := Lib.hid hb; clear hb hd5
              cases b
              · by_cases hx : x = 2
                · subst hx
                  go_wp2
                  go_roundw
                  case rel => exact ⟨q + 1, true, by omega, by go_num, by first | rfl | trivial, by first | rfl | trivial, by rw [← HB.out]; simp⟩
                  case measure => simp [intOf]; omega
                · have hxb : (x == 2) = false := by simpa using hx
                  have HXN := Lib.hid hx; clear hx
                  go_wp2
                  go_roundw
                  case rel => exact ⟨q + 1, false, by omega, by go_num, by first | rfl | trivial, by first | rfl | trivial, by rw [← HB.out]; have := HXN.out; have h2 : ((2 : Int) == x) = false := (by simpa using fun e : (2 : Int) = x => this e.symm); simp only [h2, Bool.false_or]⟩
                  case measure => simp [intOf]; omega
              · go_wp2
                go_roundw
                case rel => exact ⟨q + 1, true, by omega, by go_num, by first | rfl | trivial, by first | rfl | trivial, by rw [← HB.out]; simp⟩
                case measure => simp [intOf]; omega
            · rw [List.drop_eq_nil_of_le (by omega)] at hb
              have hb' : b = regs.contains 2 := by simpa using hb
              have HB := Lib.hid hb'; clear hb hb'
              go_wp2_with fail
              go_loopw [15, 17] (fun t j wr6 => ∃ (q : Nat) (b2 : Bool), q ≤ jn ∧ j = .int .i64 q ∧ t = .bool b2 ∧ wr6 = w4 ∧ (b2 || (ins.drop q).contains 2) = (b || ins.contains 2)) (fun _ j _ => jn - (intOf j).toNat)
              case atStart => exact ⟨0, b, Nat.zero_le _, rfl, rfl, rfl, by simp⟩
              case round =>
                obtain ⟨q, b2, hq, rfl, rfl, hw6, hb⟩ := hrel
                replace hw6 := hw6.symm
                subst hw6
                by_cases hlt : q < jn
                · obtain ⟨b5, o5, x, rfl, hc5, hd5⟩ := HI4.out.next hlt
                  rw [drop_any _ _ _ _ hd5] at hb
                  have HB2 := Lib.hid hb; clear hb hd5
                  cases b2
                  · by_cases hx : x = 2
                    · subst hx
                      go_wp2
                      go_roundw
                      case rel => exact ⟨q + 1, true, by omega, by go_num, by first | rfl | trivial, by first | rfl | trivial, by rw [← HB2.out]; simp⟩
                      case measure => simp [intOf]; omega
                    · have hxb : (x == 2) = false := by simpa using hx
                      have HXN := Lib.hid hx; clear hx
                      go_wp2
                      go_roundw
                      case rel => exact ⟨q + 1, false, by omega, by go_num, by first | rfl | trivial, by first | rfl | trivial, by rw [← HB2.out]; have := HXN.out; have h2 : ((2 : Int) == x) = false := (by simpa using fun e : (2 : Int) = x => this e.symm); simp only [h2, Bool.false_or]⟩
                      case measure => simp [intOf]; omega
                  · go_wp2
                    go_roundw
                    case rel => exact ⟨q + 1, true, by omega, by go_num, by first | rfl | trivial, by first | rfl | trivial, by rw [← HB2.out]; simp⟩
                    case measure => simp [intOf]; omega
                · rw [List.drop_eq_nil_of_le (by omega)] at hb
                  have hb' : b2 = (b || ins.contains 2) := by simpa using hb
                  rw [HB.out] at hb'
                  have hs2 := HSH.out b2 hb'
                  have HS2 := Lib.hid hs2; clear hb hb' hs2
                  go_wp2_with fail
                  go_loopw [18] (fun j wr7 => ∃ q : Nat, q ≤ SV.length ∧ j = .int .i64 q ∧ wr7 = w4) (fun j _ => SV.length - (intOf j).toNat)
                  case atStart => exact ⟨0, Nat.zero_le _, rfl, rfl⟩
                  case round =>
                    obtain ⟨q, hq, rfl, hw7⟩ := hrel
                    replace hw7 := hw7.symm
                    subst hw7
                    by_cases hlt : q < SV.length
                    · obtain ⟨b5, o5, x, rfl, hc5, hx5⟩ := VS.out.at_ hlt
                      have hxm := List.mem_of_getElem? hx5
                      by_cases hx : x = 2
                      · subst hx
                        obtain rfl : b2 = true := by
                          cases b2
                          · exact absurd hxm (HS2.out rfl)
                          · rfl
                        clear hx5 hxm
                        go_wp2
                        go_roundw
                        case rel => exact ⟨q + 1, by omega, by go_num, by first | rfl | trivial⟩
                        case measure => simp [intOf]; omega
                      · have hxb : (x == 2) = false := by simpa using hx
                        clear hx5 hxm hx
                        go_wp2
                        go_roundw
                        case rel => exact ⟨q + 1, by omega, by go_num, by first | rfl | trivial⟩
                        case measure => simp [intOf]; omega
                    · obtain rfl : q = SV.length := by omega
                      clear hlt hq
                      go_wp2_with fail
                      refine (levelBegun_any w4).mono ?_; rintro e w9 ⟨rfl, x9⟩
                      go_wp2
                      go_ret
                      exact ⟨rfl, (HX.out.trans X4.out).trans x9⟩
        · have hb : (T.2 != 0) = true := by simpa using hf
          go_wp2_with fail
          refine (levelBegun_any w4).mono ?_; rintro e w9 ⟨rfl, x9⟩
          go_wp2
          go_ret
          exact ⟨rfl, (HX.out.trans X4.out).trans x9⟩
  · have hb : (M.2 != 0) = true := by simpa using he
    clear hob
    go_enter Try.func7, Try.ntmps7
    go_wp2_with fail
    rw [← HW.out]
    refine (order_any i GA gn gc RA rn rc OA on oc N W HN.out).mono ?_; rintro e w1 ⟨v, rfl, hown, x1⟩
    rw [HM.out]
    clear hown
    go_wp2_with fail
    refine (levelBegun_any w1).mono ?_; rintro e w9 ⟨rfl, x9⟩
    go_wp2
    go_ret
    exact ⟨rfl, (HX.out.trans x1).trans x9⟩
end
end Go.Proofs.Ytjagbnaacfhokaa

