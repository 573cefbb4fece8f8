/- Settle walked. -/
import Derived.Test.YtlafiddfplhafaaFc04
import Derived.Test.YtlafiddfplhafaaFc02
import Derived.RegionTactic
import Derived.Deep.DeepCutAuto
namespace Go.Proofs.Ytlafiddfplhafaa
set_option linter.unusedVariables false
set_option linter.unusedSimpArgs false
set_option linter.unusedVariables false
set_option linter.unusedSimpArgs false
open Go.RowKit
def fillV (k n : Nat) : List Int := List.replicate k 2 ++ List.replicate (n - k) 0
theorem fillV_set {k n : Nat} (h : k < n) : (fillV k n).set k 2 = fillV (k + 1) n := by
  unfold fillV
  rw [List.set_append_right _ _ (by simp)]
  simp only [List.length_replicate, Nat.sub_self]
  rw [show n - k = (n - (k + 1)) + 1 from by omega, List.replicate_succ, List.set_cons_zero]
  simp [List.replicate_succ', List.append_assoc]
theorem fillV_end (n : Nat) : fillV n n = opensM n := by simp [fillV, opensM]
def upTo (k : Nat) : List Int := (List.range k).map (fun (j : Nat) => (j : Int))
theorem upTo_succ (k : Nat) : upTo (k + 1) = upTo k ++ [(k : Int)] := by simp [upTo, List.range_succ]
set_option maxRecDepth 100000 in
set_option maxHeartbeats 4000000 in
theorem settle_any (i : Int) (GA : Option Addr) (gn gc : Nat) (RA : Option Addr) (rn rc : Nat) (OA : Option Addr) (on oc : Nat) (N : NetM) (RB : Option Addr) (pn pc : Nat) (IA : Option Addr) (jn jc : Nat) (regs ins : List Int) (w : World)
    (h : NetC w i GA gn gc RA rn rc OA on oc N) (hr : Sl w RB pn (regs.map I)) (hi : Sl w IA jn (ins.map I)) (ak : AskedOK N regs ins) :
    Calls Try.prog 54 #[netV i GA gn gc RA rn rc OA on oc, handV RB pn pc IA jn jc] w fun e w' => ∃ v, e = .returned v ∧ w'.ownsRow w.heap.size 3 1 v gn ((settledM N.gates regs ins).map I) ∧ Ext w w' := by
  have hgl : N.gates.length = gn := h.gates.1
  have hg200 : gn ≤ 200 := by have := ak.net.gl; omega
  obtain ⟨W1, hW1⟩ : ∃ W, W = w.alloc (.cells #[I i, .slice GA gn gc, .slice RA rn rc, .slice OA on oc] 39) := ⟨_, rfl⟩
  obtain ⟨W, hW⟩ : ∃ W, W = W1.alloc (.cells #[.slice RB pn pc, .slice IA jn jc] 110) := ⟨_, rfl⟩
  have hx1 : Ext w W1 := by rw [hW1]; exact (Ext.refl _).alloc _
  have hbox1 : NetBox W1 w.heap.size i GA gn gc RA rn rc OA on oc := by rw [hW1]; exact NetBox.new w i GA gn gc RA rn rc OA on oc _
  obtain ⟨p0, p1, x2⟩ := box2 W1 _ _ _ hW
  have hs1 : W1.heap.size = w.heap.size + 1 := by rw [hW1]; simp
  have hsz : W.heap.size = w.heap.size + 1 + 1 := by rw [hW]; simp [hs1]
  rw [hs1] at p0 p1
  have hW2 : W = (w.alloc (.cells #[I i, .slice GA gn gc, .slice RA rn rc, .slice OA on oc] 39)).alloc (.cells #[.slice RB pn pc, .slice IA jn jc] 110) := by rw [hW, hW1]
  have hxW := hx1.trans x2
  have HN := Lib.hid (h.keep hxW.keeps); have HBox := Lib.hid (hbox1.keep x2.keeps); have HW := Lib.hid hW2; have HX := Lib.hid hxW; have HAK := Lib.hid ak
  have HR := Lib.hid (hr.keep hxW.keeps); have HI := Lib.hid (hi.keep hxW.keeps)
  have HP : Hid (W.cell? ⟨w.heap.size + 1, 0, none⟩ = some (.slice RB pn pc) ∧ W.cell? ⟨w.heap.size + 1, 1, none⟩ = some (.slice IA jn jc)) := ⟨p0, p1⟩
  have hmk := fun Q => run_make1 (P := Try.prog) 23 3 tab_int' Try.underlying23 rfl gn (by omega) (by omega) Q
  have hown0 : (W.alloc (.cells (zeros (.int .i64 0) gn) 3)).ownsRow W.heap.size 3 1 (.slice (some ⟨w.heap.size + 1 + 1, 0, none⟩) gn gn) gn ((fillV 0 gn).map I) := by
    have := own_made W 3 (.int .i64 0) gn W.heap.size (Nat.le_refl _) (by unfold maxLen; omega)
    rw [show (fillV 0 gn).map I = List.replicate gn (.int .i64 0) from by simp [fillV]]
    rw [← hsz]; exact this
  have HO0 := Lib.hid hown0; have HSZ := Lib.hid hsz
  clear h hr hi ak hW hW1 hW2 hx1 x2 hxW hbox1 p0 p1 hs1 hsz hown0
  go_enter Try.func54, Try.ntmps54
  go_wp2_with fail
  rw [← HW.out]
  go_wp2_with fail
  clear hmk
  go_loopw [6, 16] (fun s j wr => ∃ k : Nat, k ≤ gn ∧ j = .int .i64 k ∧ Ext W wr ∧ wr.ownsRow W.heap.size 3 1 (.slice (some ⟨w.heap.size + 1 + 1, 0, none⟩) gn gn) gn ((fillV k gn).map I) ∧ wr.ownsRow W.heap.size 3 1 s k ((upTo k).map I) ∧ s.ownBlock ≠ some (w.heap.size + 1 + 1)) (fun _ j _ => gn - (intOf j).toNat)
  case atStart => exact ⟨0, Nat.zero_le _, rfl, (Ext.refl _).alloc _, HO0.out, World.ownsRow_nil _ _ _ _, by simp [Value.ownBlock]⟩
  case round =>
    obtain ⟨k, hk, rfl, hext, hv, hs, hne⟩ := hrel
    by_cases hlt : k < gn
    · obtain ⟨⟨u, hu, hc⟩, hf, -⟩ := own_at hv hlt
      have hsv := (hv.stored k (I 2)).1
      have hset : ((fillV k gn).map I).set k (I 2) = (fillV (k + 1) gn).map I := by rw [← fillV_set hlt, List.map_set]
      rw [hset] at hsv
      have hs2 := own_other (g := w.heap.size + 1 + 1) (j := k) (u := I 2) hs hne
      have hxs : Ext W (wr.setCell ⟨w.heap.size + 1 + 1, k, none⟩ (I 2)) := hext.setCell (by show W.heap.size ≤ w.heap.size + 1 + 1; exact Nat.le_of_eq HSZ.out) _
      have HV := Lib.hid hsv; have HS := Lib.hid hs2; have HXS := Lib.hid hxs; have HNE := Lib.hid hne
      clear hv hs hext hset hsv hs2 hxs hne hu
      go_wp2_with (at_builtin; refine wpList_appendBig rfl (.tmp 22) (.tmp 24) 23 3 rfl tab_int' Try.underlying23 rfl (by omega) W (HXS.out.alloc _) _ k _ rfl (own_ext HS.out ((Ext.refl _).alloc _)) (some ⟨_, 0, none⟩) 1 1 [I k] rfl (Sl.newAt _ _ [I k] _ (by simp)) (by simp [Value.oneCell']) (by omega) (by omega) ?_; intro v' w2 hown2 hx3 hg3 hf3)
      go_roundw
      case rel =>
        refine ⟨k + 1, by omega, by go_num, hx3, ?_, by rw [upTo_succ]; simpa using hown2, ?_⟩
        · exact (own_ext HV.out ((Ext.refl _).alloc _)).kept hg3 (.inr (fun e => HNE.out e.symm))
        · intro e
          rcases hf3 _ e with q | q
          · exact HNE.out q
          · have := (HV.out.lt _ rfl).2; simp at q; simp at this; omega
      case measure => simp [intOf]; omega
    · have hkn : k = gn := by omega
      subst hkn
      clear hlt hk
      have q0 := (HBox.out.keep hext.keeps)
      obtain ⟨q0, q1, q2, q3⟩ := q0
      have HV := Lib.hid hv; have HS := Lib.hid hs; have HE := Lib.hid hext; have HNE := Lib.hid hne
      clear hv hs hext hne
      go_wp2_with fail
      refine (users_any i GA k gc RA rn rc OA on oc N wr (HN.out.keep HE.out.keeps) HAK.out.net).mono ?_; rintro e w1 ⟨gu, us, rfl, hus, x3⟩
      have hv1 := own_ext HV.out x3
      have hs1 := own_ext HS.out x3
      have hx1 := HE.out.trans x3
      have hulo := (hus.row.lt gu rfl)
      obtain ⟨b0, hb0, hbn, hbe, hba⟩ := pick_block (s := u6) (gv := w.heap.size + 1 + 1) (lo := wr.heap.size) (hi := w1.heap.size) (B := W.heap.size) HNE.out (HS.out.lt) ((hv1.lt _ rfl).2) hx1.size
      have hc0 := costV_le (usersM N.gates) (opensM k)
      have ht0 := total_users 16 N.gates HAK.out.net.al
      have HV1 := Lib.hid hv1; have HS1 := Lib.hid hs1; have HX1 := Lib.hid hx1; have HUS := Lib.hid hus; have HB0 := Lib.hid hb0; have HBN := Lib.hid hbn; have HBE := Lib.hid hbe; have HBA := Lib.hid hba
      have hm0 : k + costV (usersM N.gates) (opensM k) ≤ 3400 := by rw [hgl] at ht0; omega
      have HM0 := Lib.hid hm0
      have hgv := (HV.out.lt _ rfl).2
      have HGV := Lib.hid hgv; clear hgv
      clear hv1 hs1 hx1 x3 hus hulo hb0 hbn hbe hba hc0 ht0 hm0 HV HS HNE HO0 q0 q1 q2 q3
      go_wp2_with fail
      go_loopg [6] 3400 (fun gk s wr2 => ∃ vv work : List Int, Aside (w.heap.size + 1 + 1) b0 w1 wr2 ∧ wr2.ownsRow W.heap.size 3 1 (.slice (some ⟨w.heap.size + 1 + 1, 0, none⟩) k k) k (vv.map I) ∧ OwnQ wr2 W.heap.size 3 s (work.map I) ∧
        (∀ b, s.ownBlock = some b → b = b0 ∨ w1.heap.size ≤ b) ∧ SInv N.gates regs ins vv work ∧ work.length + costV (usersM N.gates) vv ≤ gk ∧ gk ≤ 3400)
      case atStart =>
        refine ⟨opensM k, upTo k, Aside.refl _ _ _, by rw [← fillV_end]; exact HV1.out, OwnQ.of_own HS1.out, fun b hb => .inl (HB0.out b hb), ?_, by have := HM0.out; simp [upTo]; omega, Nat.le_refl _⟩
        have := SInv.start N.gates regs ins (upTo k) (fun j => by
          rw [hgl]; simp only [upTo, List.mem_map, List.mem_range]
          constructor
          · rintro ⟨a, ha, rfl⟩; omega
          · rintro ⟨h0, h1⟩; exact ⟨j.toNat, by omega, by omega⟩)
        rw [hgl] at this; exact this
      case round =>
        obtain ⟨vv, work, hoff, hvr, hq, hqb, hinv, hm, hmx⟩ := hrel
        cases work with
        | nil =>
          obtain ⟨A, c, rfl, -, -, -⟩ := hq.slice
          have hvv := hinv.done
          subst hvv
          have HVR := Lib.hid hvr
          have HX2 := Lib.hid (HX.out.trans (hoff.ext HX1.out (Nat.le_of_eq HSZ.out) HBE.out))
          clear hoff hvr hq hqb hinv hm hmx
          go_wp2
          go_ret
          exact ⟨_, rfl, own_base HVR.out HX.out.size, HX2.out⟩
        | cons y ys =>
          obtain ⟨g, off, c, rfl, hc1, hcm, hcell, htail⟩ := hq.tail
          simp only [List.length_map] at hc1 htail
          have hrg := hinv.ws y (by simp)
          rw [hgl] at hrg
          obtain ⟨j, rfl⟩ : ∃ j : Nat, y = j := ⟨y.toNat, by omega⟩
          have hj : j < k := by omega
          obtain ⟨b, offg, A', m, c', gt, rfl, g0, g1, g2, hsg, hmc, hcm2, hd, hgt⟩ := HN.out.gates.next hj
          have hxr : Ext W wr := hoff.ext HX1.out (Nat.le_of_eq HSZ.out) HBE.out
          obtain ⟨⟨u, hu, hcv⟩, hfv, -⟩ := own_at hvr hj
          rw [List.getElem?_map] at hu
          obtain ⟨x, hxv, rfl⟩ : ∃ x, vv[j]? = some x ∧ u = I x := by
            cases hz : vv[j]? with
            | none => rw [hz] at hu; cases hu
            | some x => rw [hz] at hu; exact ⟨x, rfl, by simpa using hu.symm⟩
          have hval := valI_at hxv
          have HT := Lib.hid htail; have HV := Lib.hid hvr; have HQB := Lib.hid hqb; have HIN := Lib.hid hinv; have HM := Lib.hid hm; have HMX := Lib.hid hmx; have HOFF := Lib.hid hoff; have HXR := Lib.hid hxr
          have HSG := Lib.hid hsg; have HGT := Lib.hid hgt; have HVAL := Lib.hid hval; have HXV := Lib.hid hxv
          have k0 := hxr.keeps _ _ g0; have k1 := hxr.keeps _ _ g1; have k2 := hxr.keeps _ _ g2
          have hcc := hc1
          clear hvr hqb hinv hm hmx hoff hsg hgt hval hxv hu htail hd hmc hcm2 g0 g1 g2 hrg hq
          go_upto_region 12 with fail
          go_cut [6] (fun s wx => ∃ off' c', s = .slice (some ⟨g, off', none⟩) ys.length c' ∧ wx = wr ∧ OwnQ wr W.heap.size 3 (.slice (some ⟨g, off', none⟩) ys.length c') (ys.map I))
          case first =>
            by_cases h1 : c = 1
            · subst h1
              have ht := HT.out
              rw [if_pos rfl] at ht
              obtain rfl : ys = [] := List.eq_nil_of_length_eq_zero (by omega)
              go_wp2_with fail
              go_meet
              exact ⟨_, 0, rfl, rfl, ht⟩
            · have ht := HT.out
              rw [if_neg h1] at ht
              go_wp2_with fail
              go_meet
              exact ⟨_, _, rfl, rfl, ht⟩
          case rest =>
          obtain ⟨off', c2, rfl, rfl, hq2⟩ := hcut
          have HQ2 := Lib.hid hq2
          clear hq2 HT
          by_cases hx : x = 2
          · subst hx
            have hgr := HAK.out.net.gate (List.mem_of_getElem? HGT.out)
            rw [hgl] at hgr
            have hil := HAK.out.il; have hrl := HAK.out.rl
            have hjn : jn = N.ins.toNat := by have := HI.out.len; omega
            have hpn : pn = N.regs.length := by have := HR.out.len; omega
            rw [← hjn, ← hpn] at hgr
            have HGR := Lib.hid hgr
            have hp := HP.out
            have p0 := HXR.out.keeps _ _ hp.1; have p1 := HXR.out.keeps _ _ hp.2
            have q1 := ((HBox.out.keep HXR.out.keeps)).2.1
            generalize hX : worthM regs ins vv gt = X
            have hof : ∀ Q, Ext wc Q → Calls Try.prog 87 #[handV RB pn pc IA jn jc, gateV gt.kind gt.num A' m c', .slice (some ⟨w.heap.size + 1 + 1, 0, none⟩) k k] Q fun e w' => e = .returned (I X) ∧ Ext Q w' := fun Q hQ => by
              rw [← hX]
              exact handOf_any RB pn pc IA jn jc A' m c' (some ⟨w.heap.size + 1 + 1, 0, none⟩) k k regs ins vv gt Q ((HR.out.keep HXR.out.keeps).keep hQ.keeps) ((HI.out.keep HXR.out.keeps).keep hQ.keeps) ((HSG.out.keep HXR.out.keeps).keep hQ.keeps)
                (by obtain ⟨A5, c5, e5, -, -, hsl⟩ := own_sl HV.out; injection e5 with e5 _ _; rw [e5]; exact hsl.keep hQ.keeps) hgr HIN.out.good
            have HOF := Lib.hid hof; have HEX := Lib.hid hX
            have P0 := Lib.hid p0; have P1 := Lib.hid p1; have Q1 := Lib.hid q1; have K0 := Lib.hid k0; have K1 := Lib.hid k1; have K2 := Lib.hid k2
            clear hgr hil hrl hjn hpn hp hof hX p0 p1 q1 k0 k1 k2
            go_upto_region 14 with fail
            refine wp_flow3 10 2 [isV (.slice (some ⟨w.heap.size + 1 + 1, 0, none⟩) k k), isV (.int .i64 j), isV (.agg #[.slice RB pn pc, .slice IA jn jc]), isV (.pointer (some ⟨w.heap.size, 1, none⟩)), isV (.slice (some ⟨b, offg, none⟩) k gc), isV (.int .i64 j), isV (.pointer (some ⟨b, offg + j * 3, none⟩)), isV (.agg #[I gt.kind, I gt.num, .slice A' m c']), isV (.slice (some ⟨w.heap.size + 1 + 1, 0, none⟩) k k), isV (.int .i64 X)] (by kernel_rfl) rfl rfl (by kernel_rfl) (by kernel_rfl) ⟨isV_mono, isV_mono, isV_mono, isV_mono, isV_mono, isV_mono, isV_mono, isV_mono, isV_mono, isV_mono, trivial⟩ ?each ?rest
            case each =>
              refine .cons ?_ (.cons ?_ (.cons ?_ (.cons ?_ (.cons ?_ (.cons ?_ (.cons ?_ (.cons ?_ (.cons ?_ (.cons ?_ (.nil))))))))))
              · intro fa fw hx hs hb
                have s5 : fa.tmps[(5 : Nat)]? = some (.slice (some ⟨w.heap.size + 1 + 1, 0, none⟩) k k) := (hb 5 (by kernel_rfl)).trans (by rfl)
                refine .inl ⟨wanted_free rfl, fun K hK => ?_⟩
                clear hs hb hx
                go_simp
                exact hK _ _ rfl (Ext.refl _)
              · intro fa fw hx hs hb
                have s9 : fa.tmps[(9 : Nat)]? = some (.int .i64 j) := (hb 9 (by kernel_rfl)).trans (by rfl)
                refine .inl ⟨wanted_free rfl, fun K hK => ?_⟩
                clear hs hb hx
                go_simp
                exact hK _ _ rfl (Ext.refl _)
              · intro fa fw hx hs hb
                have s3 : fa.tmps[(3 : Nat)]? = some (.pointer (some ⟨w.heap.size + 1, 0, none⟩)) := (hb 3 (by kernel_rfl)).trans (by rfl)
                have c0 := hx.keeps _ _ P0.out
                have c1 := hx.keeps _ _ P1.out
                refine .inl ⟨wanted_free rfl, fun K hK => ?_⟩
                clear hs hb hx
                go_simp
                exact hK _ _ rfl (Ext.refl _)
              · intro fa fw hx hs hb
                have s2 : fa.tmps[(2 : Nat)]? = some (.pointer (some ⟨w.heap.size, 0, none⟩)) := (hb 2 (by kernel_rfl)).trans (by rfl)
                refine .inl ⟨wanted_free rfl, fun K hK => ?_⟩
                clear hs hb hx
                go_simp
                exact hK _ _ rfl (Ext.refl _)
              · intro fa fw hx hs hb
                obtain ⟨_, s45, rfl⟩ := hs 3 45 (by kernel_rfl) (by kernel_rfl)
                have c0 := hx.keeps _ _ Q1.out
                refine .inl ⟨wanted_free rfl, fun K hK => ?_⟩
                clear hs hb hx
                go_simp
                exact hK _ _ rfl (Ext.refl _)
              · intro fa fw hx hs hb
                have s9 : fa.tmps[(9 : Nat)]? = some (.int .i64 j) := (hb 9 (by kernel_rfl)).trans (by rfl)
                refine .inl ⟨wanted_free rfl, fun K hK => ?_⟩
                clear hs hb hx
                go_simp
                exact hK _ _ rfl (Ext.refl _)
              · intro fa fw hx hs hb
                obtain ⟨_, s46, rfl⟩ := hs 4 46 (by kernel_rfl) (by kernel_rfl)
                obtain ⟨_, s47, rfl⟩ := hs 5 47 (by kernel_rfl) (by kernel_rfl)
                refine .inl ⟨wanted_free rfl, fun K hK => ?_⟩
                clear hs hb hx
                go_simp
                exact hK _ _ rfl (Ext.refl _)
              · intro fa fw hx hs hb
                obtain ⟨_, s48, rfl⟩ := hs 6 48 (by kernel_rfl) (by kernel_rfl)
                have c0 := hx.keeps _ _ K0.out
                have c1 := hx.keeps _ _ K1.out
                have c2 := hx.keeps _ _ K2.out
                refine .inl ⟨wanted_free rfl, fun K hK => ?_⟩
                clear hs hb hx
                go_simp
                exact hK _ _ rfl (Ext.refl _)
              · intro fa fw hx hs hb
                have s5 : fa.tmps[(5 : Nat)]? = some (.slice (some ⟨w.heap.size + 1 + 1, 0, none⟩) k k) := (hb 5 (by kernel_rfl)).trans (by rfl)
                refine .inl ⟨wanted_free rfl, fun K hK => ?_⟩
                clear hs hb hx
                go_simp
                exact hK _ _ rfl (Ext.refl _)
              · intro fa fw hx hs hb
                obtain ⟨_, s44, rfl⟩ := hs 2 44 (by kernel_rfl) (by kernel_rfl)
                obtain ⟨_, s49, rfl⟩ := hs 7 49 (by kernel_rfl) (by kernel_rfl)
                obtain ⟨_, s50, rfl⟩ := hs 8 50 (by kernel_rfl) (by kernel_rfl)
                refine .inl ⟨wanted_free rfl, fun K hK => ?_⟩
                clear hs hb
                go_simp
                refine (HOF.out _ hx).mono ?_
                rintro e w' ⟨rfl, xq⟩
                exact hK _ _ rfl xq
            case rest =>
              intro w2 hxw2
              rintro _ rfl
              rintro _ rfl
              rintro _ rfl
              rintro _ rfl
              rintro _ rfl
              rintro _ rfl
              rintro _ rfl
              rintro _ rfl
              rintro _ rfl
              rintro _ rfl
              simp only [putAll, List.take, Act.put, List.setIfInBounds_toArray, List.set_cons_zero, List.set_cons_succ]
              refine wpAny_ready (rs := [10]) (by kernel_rfl) (by simp) (AllReady.cons rfl (fun KK hKK => ?_) AllReady.nil)
              have x6 := hxw2
              have hv2 := own_ext HV.out x6
              obtain ⟨⟨u, hu2, hcv2⟩, hfv2, -⟩ := own_at hv2 hj
              clear hcell hcv hfv
              go_simp
              refine hKK _ _ ?_
              clear hKK KK
              refine wpAny_ready (rs := [11]) (by kernel_rfl) (by simp) (AllReady.cons rfl (fun KK hKK => ?_) AllReady.nil)
              go_simp
              refine hKK _ _ ?_
              clear hKK KK
              refine wpAny_done (by kernel_rfl) ?_ _
              have hset := fun hx => HIN.out.settle (g := gt) HAK.out.rg HAK.out.ig (by rw [hgl]; exact fun g hg a ha => by have := (HAK.out.net.gate hg).args a ha; rw [hgl] at this; exact this) (by simpa using HGT.out) HVAL.out hx
              have hnone := fun hx => HIN.out.none (g := gt) (by simpa using HGT.out) hx
              rw [HEX.out] at hset hnone
              have hq3 := (HQ2.out.ext x6)
              have hqn : (Value.slice (some ⟨g, off', none⟩) ys.length c2).ownBlock ≠ some (w.heap.size + 1 + 1) := by
                intro e
                have e : g = w.heap.size + 1 + 1 := Option.some.inj e
                rcases HQB.out g rfl with q | q
                · exact HBN.out (q.symm.trans e)
                · have := (HV1.out.lt _ rfl).2; simp at this; omega
              have hq4 := hq3.kept (grownBy_set w2 (w.heap.size + 1 + 1) j (I X)) (.inr hqn)
              have hv3 := (hv2.stored j (I X)).1
              rw [← List.map_set] at hv3
              have hoff3 := (HOFF.out.more x6).set1 j (I X)
              have HS := Lib.hid hset; have HNO := Lib.hid hnone; have HQ4 := Lib.hid hq4; have HV3 := Lib.hid hv3; have HOFF3 := Lib.hid hoff3
              clear hset hnone hq3 hqn hq4 hv2 hv3 hoff3 hu2 x6 hxw2
              by_cases hX2 : X = 2
              · subst hX2
                go_wp2
                go_roundg (ys.length + costV (usersM N.gates) vv)
                case measure => have := HM.out; simp at this; omega
                case rel => exact ⟨vv, ys, HOFF3.out, by have := HV3.out; rwa [set_same HXV.out] at this, HQ4.out, HQB.out, HNO.out trivial, Nat.le_refl _, by have := HM.out; have := HMX.out; simp at *; omega⟩
              · have hxb : (X != 2) = true := by simpa using hX2
                have HXX := Lib.hid hX2; clear hX2
                obtain ⟨v, uu, hvs, huu, hcu, hfu, hou, hbu⟩ := HUS.out.get hj
                obtain ⟨A6, c6, rfl, h61, h62, hs6⟩ := own_sl hou
                have hgu := HUS.out.row.lt gu rfl
                have hg1 : gu ≠ w.heap.size + 1 + 1 := by have := HGV.out; have := hgu.1; omega
                have hg2 : gu ≠ b0 := HBA.out gu hgu.1 hgu.2
                have hcu3 := HOFF3.out.cell hcu hg1 hg2
                have hs7 := hs6.aside HOFF3.out (fun p e => by
                  have hb := hou.lt p.block (by rw [e]; rfl)
                  exact ⟨by have := HGV.out; have := hb.1; omega, HBA.out _ hb.1 hb.2⟩)
                have hcost := costV_set (usersM N.gates) vv j uu X huu HXV.out HXX.out
                have huse : useI (usersM N.gates) (j : Int) = uu := by simp [useI, huu]
                have hbase : W.heap.size ≤ (w2.setCell ⟨w.heap.size + 1 + 1, j, none⟩ (I X)).heap.size := (HOFF3.out.ext HX1.out (Nat.le_of_eq HSZ.out) HBE.out).size
                have hbd : (ys.map I).length + uu.length ≤ 3400 := by have := HM.out; have := HMX.out; simp at *; omega
                have HS7 := Lib.hid hs7; have HCO := Lib.hid hcost; have HUSE := Lib.hid huse; have HBS := Lib.hid hbase; have HBD := Lib.hid hbd
                clear hou hcu hfu hs6 hgu hg1 hg2 hs7 hcost huse hbase hbd hvs huu hbu h61 h62
                go_wp2_with (at_builtin; refine wpList_appendQ rfl (.tmp 58) (.tmp 62) 23 3 rfl tab_int' Try.underlying23 rfl (by omega) W.heap.size HBS.out _ (ys.map I) rfl HQ4.out A6 uu.length c6 _ rfl HS7.out (ints_one uu) (by have := HBD.out; omega) (by have := HBD.out; omega) ?_; intro v' w4 hown4 hg4 hf4)
                go_roundg ((ys ++ uu).length + costV (usersM N.gates) (vv.set j X))
                case measure => have := HM.out; have := HCO.out; simp at *; omega
                case rel =>
                  refine ⟨vv.set j X, ys ++ uu, HOFF3.out.grown hg4 (HQB.out), HV3.out.kept hg4 (.inr fun e => ?_), by rw [List.map_append]; exact hown4, fun b hb => ?_, ?_, Nat.le_refl _, ?_⟩
                  · have e : g = w.heap.size + 1 + 1 := (Option.some.inj e).symm
                    rcases HQB.out g rfl with q | q
                    · exact HBN.out (q.symm.trans e)
                    · have := (HV1.out.lt _ rfl).2; simp at this; omega
                  · rcases hf4 b hb with q | q
                    · exact HQB.out b q
                    · exact .inr (Nat.le_trans HOFF3.out.size q)
                  · have := HS.out HXX.out; rw [HUSE.out] at this; simpa using this
                  · have := HM.out; have := HMX.out; have := HCO.out; simp at *; omega
          · have hxb : (x != 2) = true := by simpa using hx
            have HX2 := Lib.hid hx
            clear hx k0 k1 k2
            go_wp2
            go_roundg (ys.length + costV (usersM N.gates) vv)
            case measure => have := HM.out; simp at this; omega
            case rel => exact ⟨vv, ys, HOFF.out, HV.out, HQ2.out, HQB.out, HIN.out.skip (by rw [HVAL.out]; exact HX2.out), Nat.le_refl _, by have := HM.out; have := HMX.out; simp at *; omega⟩
end Go.Proofs.Ytlafiddfplhafaa
