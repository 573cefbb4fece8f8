/- The reference's order walked; Order, OrderOf. -/
import Derived.Test.YtjagbnaacfhokaaPk11
import Derived.Test.YtjagbnaacfhokaaPk12
namespace Go.Proofs.Ytjagbnaacfhokaa
set_option linter.unusedVariables false
set_option linter.unusedSimpArgs false
open Go.RowKit Go.Maps

theorem readyFrom_at {gs : List GateM} {j : Nat} {g : GateM} (hg : gs[j]? = some g) (o : List Bool) : readyFrom (gs.drop j) j o = if !onI o j && argsDone o g then (j : Int) else readyFrom (gs.drop (j + 1)) (j + 1) o := by
  have hl := (List.getElem?_eq_some_iff.1 hg).1
  rw [List.drop_eq_getElem_cons hl]
  have : gs[j] = g := (List.getElem?_eq_some_iff.1 hg).2
  rw [this]; rfl
set_option maxRecDepth 100000 in
set_option maxHeartbeats 4000000 in
theorem rorder_any (i : Int) (GA : Option Addr) (gn gc : Nat) (RA : Option Addr) (rn rc : Nat) (OA : Option Addr) (on oc : Nat) (N : NetM) (w : World) (h : NetC w i GA gn gc RA rn rc OA on oc N) (ok : NetOK N) :
    Calls Try.prog 84 #[netV i GA gn gc RA rn rc OA on oc] w (OfPost w (orderM N.gates)) := by
  have hgl : N.gates.length = gn := h.gates.1
  have hg200 : gn ≤ 200 := by have := ok.gl; omega
  generalize hM : orderM N.gates = M
  have HM := Lib.hid hM; clear hM
  obtain ⟨W, hW⟩ : ∃ W, W = w.alloc (.cells #[I i, .slice GA gn gc, .slice RA rn rc, .slice OA on oc] 26) := ⟨_, rfl⟩
  have hxW : Ext w W := by rw [hW]; exact (Ext.refl _).alloc _
  have hbox : NetBox W w.heap.size i GA gn gc RA rn rc OA on oc := by rw [hW]; exact NetBox.new w i GA gn gc RA rn rc OA on oc _
  have hsz : W.heap.size = w.heap.size + 1 := by rw [hW]; simp
  have HN := Lib.hid (h.keep hxW.keeps); have HBox := Lib.hid hbox; have HW := Lib.hid hW; have HX := Lib.hid hxW; have HOK := Lib.hid ok
  have hmk := fun Q => run_make1 (P := Try.prog) 27 4 tab_bool Try.underlying27 rfl gn (by omega) (by omega) Q
  have hown0 : (W.alloc (.cells (zeros (.bool false) gn) 4)).ownsRow W.heap.size 4 1 (.slice (some ⟨w.heap.size + 1, 0, none⟩) gn gn) gn ((List.replicate gn false).map Bv) := by
    have := own_made W 4 (.bool false) gn W.heap.size (Nat.le_refl _) (by unfold maxLen; omega)
    rw [show (List.replicate gn false).map Bv = List.replicate gn (.bool false) from by simp]
    rw [← hsz]; exact this
  obtain ⟨W2, hW2⟩ : ∃ W2, W2 = W.alloc (.cells (zeros (.bool false) gn) 4) := ⟨_, rfl⟩
  have hlack0 : W2.ownsRow W.heap.size 4 1 (.slice (some ⟨w.heap.size + 1, 0, none⟩) gn gn) gn ((List.replicate gn false).map Bv) := by rw [hW2]; exact hown0
  have hx2 : Ext W W2 := by rw [hW2]; exact (Ext.refl _).alloc _
  have hs2 : W2.heap.size = w.heap.size + 1 + 1 := by rw [hW2]; simp [hsz]
  have HSZ := Lib.hid hsz; have HW2 := Lib.hid hW2; have HL0 := Lib.hid hlack0; have HX2 := Lib.hid hx2; have HS2 := Lib.hid hs2
  clear h hW hxW hbox ok hsz hown0 hW2 hlack0 hx2 hs2
  go_enter Try.func84, Try.ntmps84
  go_wp2_with fail
  rw [← HW.out]
  obtain ⟨q0, q1, q2, q3⟩ := HBox.out
  go_wp2_with fail
  rw [← HW2.out]
  clear hmk q0 q1 q2 q3
  go_loopg [4] gn (fun gk s wr2 => ∃ (k2 : Nat) (o : List Bool) (out : List Int), k2 + gk = gn ∧ Ext W wr2 ∧ W2.heap.size ≤ wr2.heap.size ∧ wr2.ownsRow W.heap.size 4 1 (.slice (some ⟨w.heap.size + 1, 0, none⟩) gn gn) gn (o.map Bv) ∧ wr2.ownsRow W2.heap.size 3 1 s k2 (out.map I) ∧ o.length = gn ∧ out.length = k2 ∧ orderFrom N.gates gk o out = M)
  case atStart => exact ⟨0, List.replicate gn false, [], by omega, HX2.out, Nat.le_refl _, HL0.out, World.ownsRow_nil _ _ _ _, by simp, rfl, by have := HM.out; unfold orderM at this; rw [hgl] at this; exact this⟩
  case round =>
    obtain ⟨k2, o, out, hk2, hext, hsr, hv2, hs2, hol, houl, hO⟩ := hrel
    obtain ⟨sA, sc, rfl, hsc, hscm, -⟩ := own_sl hs2
    unfold maxLen at hscm
    obtain ⟨q0, q1, q2, q3⟩ := HBox.out.keep hext.keeps
    cases gk with
    | zero =>
      have hkk : k2 = gn := by omega
      subst hkk
      rw [orderFrom] at hO
      subst hO
      have HS2' := Lib.hid hs2; have HE := Lib.hid hext
      have hws : w.heap.size ≤ W2.heap.size := by rw [HS2.out]; omega
      clear hs2 hext hv2 hol hk2
      go_wp2
      go_ret2
      exact ⟨_, rfl, by rw [houl]; exact own_base HS2'.out hws, HX.out.trans HE.out⟩
    | succ gk =>
      have hlt : k2 < gn := by omega
      rw [orderFrom] at hO
      have HV2 := Lib.hid hv2; have HSO := Lib.hid hs2; have HOL := Lib.hid hol; have HOUL := Lib.hid houl; have HO := Lib.hid hO; have HE := Lib.hid hext; have HSR := Lib.hid hsr; have HK2 := Lib.hid hk2
      clear hv2 hs2 hol houl hO hext hsr hk2
      obtain ⟨wA, hwA⟩ : ∃ q, q = wr := ⟨_, rfl⟩
      subst hwA
      go_wp2_with fail
      go_loopw [6, 7] (fun nx j wr3 => ∃ j2 : Nat, j2 ≤ gn ∧ j = .int .i64 ((j2 : Int) - 1) ∧ nx = .int .i64 (readyFrom (N.gates.drop j2) j2 o) ∧ wr3 = wA) (fun _ j _ => (intOf j + 1).toNat)
      case atStart => exact ⟨gn, Nat.le_refl _, rfl, by rw [List.drop_eq_nil_of_le (by rw [hgl]; omega)]; rfl, rfl⟩
      case round =>
        obtain ⟨j2, hj2, hjv, rfl, hw3⟩ := hrel
        replace hw3 := hw3.symm
        subst hw3
        cases j2 with
        | zero =>
          rw [show ((0 : Nat) : Int) - 1 = -1 from rfl] at hjv
          subst hjv
          rw [List.drop_zero, show readyFrom N.gates 0 o = readyM N.gates o from rfl]
          have hO' := HO.out
          by_cases hneg : readyM N.gates o < 0
          · rw [if_pos hneg] at hO'
            subst hO'
            clear hj2
            go_wp2
            go_ret2
            exact ⟨rfl, HX.out.trans HE.out⟩
          · rw [if_neg hneg] at hO'
            obtain ⟨a, g, hra, hga, hna, had⟩ : ∃ (a : Nat) (g : GateM), readyM N.gates o = (a : Int) ∧ N.gates[a]? = some g ∧ onI o a = false ∧ argsDone o g = true := by
              rcases readyM_spec N.gates o with e | ⟨j, g, e1, e2, e3, e4⟩
              · omega
              · exact ⟨j, g, e1, e2, e3, e4⟩
            have hag : a < gn := by have := (List.getElem?_eq_some_iff.1 hga).1; omega
            rw [hra, Int.toNat_natCast] at hO'
            rw [hra]
            obtain ⟨⟨u, hu, hcv⟩, hfv, -⟩ := own_at HV2.out hag
            have hsetv := (HV2.out.stored a (Bv true)).1
            rw [← List.map_set] at hsetv
            have hsB := (HSO.out.kept (grownBy_set wA (w.heap.size + 1) a (Bv true)) (by
              cases hb : Value.ownBlock (.slice sA k2 sc) with
              | none => exact .inl rfl
              | some b => exact .inr (fun e => by have := (HSO.out.lt b hb).1; have := HS2.out; have e : b = w.heap.size + 1 := Option.some.inj e; omega)))
            have hxB : Ext W (wA.setCell ⟨w.heap.size + 1, a, none⟩ (Bv true)) := HE.out.setCell (by show W.heap.size ≤ w.heap.size + 1; exact Nat.le_of_eq HSZ.out) _
            have HO' := Lib.hid hO'; have HSET := Lib.hid hsetv; have HSB := Lib.hid hsB; have HXB := Lib.hid hxB
            clear hO' hra hneg hga hna had hsetv hsB hxB hu hj2
            obtain ⟨i0, hi0, hz0, hz1, hz2⟩ := info_parts tab_int'
            go_upto_region 18 with fail
            have hszB : (wA.setCell ⟨w.heap.size + 1, a, none⟩ (Bv true)).heap.size = wA.heap.size := by simp
            generalize wA.setCell ⟨w.heap.size + 1, a, none⟩ (Bv true) = wB at *
            have HSZB := Lib.hid hszB; clear hszB
            clear hcv hfv
            go_wp2_with (at_builtin; (refine wpList_append_own_at _ rfl (.tmp 66) (.tmp 68) 24 rfl W2.heap.size 3 i0 (.int .i64 0) 1 8 Try.underlying24 hi0 hz0 hz1 hz2 rfl (by decide) _ k2 (out.map I) rfl (HSB.out.alloc _) ⟨wB.heap.size, 0, none⟩ 1 1 [I a] rfl rfl (fun j u hu => by rw [add_zero, World.cell?_alloc_new]; simpa using hu) (by simp [Value.oneCell']) (by unfold maxLen; omega) (by omega) (by have := HSR.out; have := HSZB.out; simp; omega) ?_); intro vo wC hownC hgrC hnilC hlocC)
            have hxC : Ext W wC := Below.grown (HXB.out.alloc _) hgrC (Nat.le_trans HXB.out.size (by simp)) (fun b hb => Nat.le_trans HX2.out.size (HSB.out.lt b hb).1)
            have hvC := (HSET.out.alloc (.cells #[I a] 3)).kept hgrC (.inr (fun e => by have := (HSB.out.lt (w.heap.size + 1) e.symm).1; have := HS2.out; omega))
            have hsC : W2.heap.size ≤ wC.heap.size := by have h1 := hgrC.size; have h2 := HSR.out; have := HSZB.out; simp at h1; omega
            have hoC : (o.set a true).length = gn := by simpa using HOL.out
            have huC : (out ++ [(a : Int)]).length = k2 + 1 := by have := HOUL.out; simp; omega
            clear hgrC hnilC hlocC
            go_roundg gk
            case rel => exact ⟨k2 + 1, o.set a true, out ++ [(a : Int)], by have := HK2.out; omega, hxC, hsC, hvC, by simpa using hownC, hoC, huC, HO'.out⟩
            case measure => omega
        | succ j2 =>
          rw [show ((j2 + 1 : Nat) : Int) - 1 = (j2 : Int) from by omega] at hjv
          subst hjv
          have hjg : j2 < gn := by omega
          obtain ⟨b, off, A', m, c', g, rfl, g0, g1, g2, hs, hmc, hcm, hd, hgk⟩ := HN.out.gates.next hjg
          have c0 := HE.out.keeps _ _ g0; have c1 := HE.out.keeps _ _ g1; have c2 := HE.out.keeps _ _ g2
          have hgr := HOK.out.gate (List.mem_of_getElem? hgk)
          rw [HN.out.gates.1] at hgr
          have hml := hs.len
          have hm16 : m ≤ 16 := by have := hgr.al; omega
          have hrf := readyFrom_at hgk o
          obtain ⟨⟨u, hu, hcv⟩, hfv, -⟩ := own_at HV2.out hjg
          rw [List.getElem?_map] at hu
          obtain ⟨y, hy, rfl⟩ : ∃ y, o[j2]? = some y ∧ u = Bv y := by
            cases hz : o[j2]? with
            | none => rw [hz] at hu; cases hu
            | some y => rw [hz] at hu; exact ⟨y, rfl, by simpa using hu.symm⟩
          rw [onI_nth hy] at hrf
          have HS := Lib.hid (hs.keep HE.out.keeps); have HGR := Lib.hid hgr; have HRF := Lib.hid hrf; have HML := Lib.hid hml
          clear g0 g1 g2 hs hd hgk hgr hml hrf hu hy hmc
          go_wp2_with fail
          go_loopw [8, 9] (fun rb j wr4 => ∃ (q : Nat) (t : Bool), q ≤ m ∧ j = .int .i64 q ∧ rb = .bool t ∧ wr4 = wA ∧ (t && (g.args.drop q).all (onI o)) = (!y && argsDone o g)) (fun _ j _ => m - (intOf j).toNat)
          case atStart => exact ⟨0, !y, Nat.zero_le _, rfl, rfl, rfl, rfl⟩
          case round =>
            obtain ⟨q, t, hq, rfl, rfl, hw4, hT⟩ := hrel
            replace hw4 := hw4.symm
            subst hw4
            by_cases hltq : q < m
            · obtain ⟨b3, off3, x, rfl, hc3, hdx⟩ := HS.out.next hltq
              have hxm : x ∈ g.args := by
                have : x ∈ g.args.drop q := by rw [hdx]; simp
                exact List.mem_of_mem_drop this
              obtain ⟨hx0, hx1⟩ := HGR.out.args x hxm
              obtain ⟨a, rfl⟩ : ∃ a : Nat, x = a := ⟨x.toNat, by omega⟩
              have ha : a < gn := by omega
              obtain ⟨⟨u, hu, hcw⟩, hfw, -⟩ := own_at HV2.out ha
              rw [List.getElem?_map] at hu
              obtain ⟨z, hz, rfl⟩ : ∃ z, o[a]? = some z ∧ u = Bv z := by
                cases hz : o[a]? with
                | none => rw [hz] at hu; cases hu
                | some z => rw [hz] at hu; exact ⟨z, rfl, by simpa using hu.symm⟩
              rw [hdx, List.all_cons, onI_nth hz] at hT
              have HT := Lib.hid hT
              clear hT hdx hxm hu hz
              cases t
              · go_wp2
                go_roundw
                case rel => exact ⟨q + 1, false, by omega, by go_num, by first | rfl | trivial, by first | rfl | trivial, by rw [← HT.out]; rfl⟩
                case measure => simp [intOf]; omega
              · go_wp2
                go_roundw
                case rel => exact ⟨q + 1, z, by omega, by go_num, by first | rfl | trivial, by first | rfl | trivial, by rw [← HT.out]; simp⟩
                case measure => simp [intOf]; omega
            · rw [List.drop_eq_nil_of_le (by rw [HML.out]; omega)] at hT
              have hT' : t = (!y && argsDone o g) := by rw [← hT]; simp
              have hrf := HRF.out
              rw [← hT'] at hrf
              have HRF' := Lib.hid hrf
              clear hT hT' hrf
              cases t
              · go_wp2
                go_roundw
                case rel => exact ⟨j2, by omega, by go_num, by rw [HRF'.out]; rfl, by first | rfl | trivial⟩
                case measure => simp [intOf]; try omega
              · go_wp2
                go_roundw
                case rel => exact ⟨j2, by omega, by go_num, by rw [HRF'.out]; rfl, by first | rfl | trivial⟩
                case measure => simp [intOf]; try omega
end Go.Proofs.Ytjagbnaacfhokaa
