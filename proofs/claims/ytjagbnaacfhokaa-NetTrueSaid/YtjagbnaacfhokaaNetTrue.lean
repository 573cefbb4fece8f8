/- The body of NetTrue, from the contracts. -/
import Derived.Test.YtjagbnaacfhokaaNetBegun
import Derived.Test.YtjagbnaacfhokaaChoose
import Derived.Test.YtjagbnaacfhokaaAppend
import Derived.Test.YtjagbnaacfhokaaTickSplit0
import Derived.Test.YtjagbnaacfhokaaFlow
import Derived.RegionTactic
import Derived.Deep.DeepCutAuto
namespace Go.Proofs.Ytjagbnaacfhokaa
set_option linter.unusedVariables false
set_option linter.unusedSimpArgs false
open Go.RowKit

theorem needsE_intro {N : NetM} {l : List Int} (hc : checkN N = 0) (h : inR N.gates.length l) : needsE N l = 0 := by
  unfold needsE
  rw [if_neg (by simp [hc])]
  have : l.any (badPlace N.gates.length) = false := List.any_eq_false.2 fun k hk => by
    have := h k hk
    simp [badPlace]; omega
  rw [this]; rfl
theorem flagX {gs : List GateM} {l : List Int} {k : Nat} (h : k < gs.length) : (needsM gs l)[k]? = some (onI (needsM gs l) (k : Int)) := by
  have : k < (needsM gs l).length := by rw [needsM_len]; exact h
  simp [onI, this]

section
variable (i : Int) (GA : Option Addr) (gn gc : Nat) (RA : Option Addr) (rn rc : Nat) (OA : Option Addr) (on oc : Nat) (N : NetM)
set_option maxRecDepth 100000 in
set_option maxHeartbeats 8000000 in
theorem netTrue_walk (A : Option Addr) (n c : Nat) (l : List Int) (kk ii : Int) (w : World) (h : NetC w i GA gn gc RA rn rc OA on oc N) (hl : Sl w A n (l.map I)) (hn : n * 8 ≤ 140737488351232) (hk1 : -9223372036854775808 ≤ kk) (hk2 : kk ≤ 9223372036854775807) (hi1 : -9223372036854775808 ≤ ii) (hi2 : ii ≤ 9223372036854775807) :
    Calls Try.prog 3 #[netV i GA gn gc RA rn rc OA on oc, .slice A n c, I kk, I ii] w fun e w' => e = .returned (.bool true) ∧ Ext w w' := by
  obtain ⟨W, hW⟩ : ∃ W, W = w.alloc (.cells #[I i, .slice GA gn gc, .slice RA rn rc, .slice OA on oc] 26) := ⟨_, rfl⟩
  have hxW : Ext w W := by rw [hW]; exact (Ext.refl _).alloc _
  have hbox : NetBox W w.heap.size i GA gn gc RA rn rc OA on oc := by rw [hW]; exact NetBox.new w i GA gn gc RA rn rc OA on oc _
  have hgl : N.gates.length = gn := h.gates.1
  have HN := Lib.hid (h.keep hxW.keeps); have HBox := Lib.hid hbox; have HW := Lib.hid hW; have HX := Lib.hid hxW; have HGL := Lib.hid hgl
  have HL := Lib.hid (hl.keep hxW.keeps); have HNM := Lib.hid hn
  have HCH := fun g hg hm => Lib.hid (fun Q => choose_any kk g Q hg hm hk1 hk2)
  have HCI := fun g hg hm => Lib.hid (fun Q => choose_any ii g Q hg hm hi1 hi2)
  clear h hl hn hW hxW hbox hgl hk1 hk2 hi1 hi2
  by_cases h0 : needsE N l = 0
  · obtain ⟨hc, hr⟩ := needsE_ok h0
    have ok := checkN_ok hc
    have hg200 : gn ≤ 200 := by have := ok.gl; have := HGL.out; omega
    have HE := Lib.hid h0; have HC := Lib.hid hc; have HR := Lib.hid hr; have HOK := Lib.hid ok
    clear h0 hc hr ok
    by_cases hg0 : gn = 0
    · subst hg0
      go_enter Try.func3, Try.ntmps3
      go_wp2_with fail
      rw [← HW.out]
      refine (netNeeds_ok i GA 0 gc RA rn rc OA on oc N A n c l W HN.out HL.out (by have := HNM.out; omega) HE.out).mono ?_; rintro e' w1 ⟨v, rfl, hown, x1⟩
      obtain ⟨q0, q1, q2, q3⟩ := HBox.out.keep x1.keeps
      have X1 := Lib.hid x1; clear x1 hown
      go_wp2_with fail
      refine (netBegun_any w1).mono ?_; rintro e' w2 ⟨rfl, x2⟩
      go_wp2
      go_ret
      exact ⟨rfl, HX.out.trans (X1.out.trans x2)⟩
    · obtain ⟨hc1, hc2⟩ := choose_range kk gn (by omega)
      obtain ⟨g, hg⟩ : ∃ g : Nat, chooseM kk gn = g := ⟨(chooseM kk gn).toNat, by omega⟩
      obtain ⟨hd1, hd2⟩ := choose_range ii gn (by omega)
      obtain ⟨j, hj⟩ : ∃ j : Nat, chooseM ii gn = j := ⟨(chooseM ii gn).toNat, by omega⟩
      have hgl : g < gn := by omega
      have hjl : j < gn := by omega
      have CH : ∀ Q, Calls Try.prog 28 #[I kk, I gn] Q fun e w' => e = .returned (I g) ∧ Q = w' := fun Q => by have := (HCH gn (by omega) (by omega)).out Q; rw [hg] at this; exact this
      have CI : ∀ Q, Calls Try.prog 28 #[I ii, I gn] Q fun e w' => e = .returned (I j) ∧ Q = w' := fun Q => by have := (HCI gn (by omega) (by omega)).out Q; rw [hj] at this; exact this
      have CHH := Lib.hid CH; have CII := Lib.hid CI
      have hgl' : g < N.gates.length := by have := HGL.out; omega
      have hjl' : j < N.gates.length := by have := HGL.out; omega
      have hgr : (0 : Int) ≤ g ∧ (g : Int) < N.gates.length := by omega
      have hr1 : inR N.gates.length (l ++ [(g : Int)]) := fun q hq => by
        rcases List.mem_append.1 hq with e | e
        · exact HR.out q e
        · simp at e; subst e; exact hgr
      have hr2 : inR N.gates.length [(g : Int)] := fun q hq => by simp at hq; subst hq; exact hgr
      have HE1 := Lib.hid (needsE_intro HC.out hr1); have HE2 := Lib.hid (needsE_intro HC.out hr2)
      have hmore := needs_more HOK.out.args HR.out hgr j
      have hsame := needs_same HOK.out.args HR.out hgr
      have hargs := fun a => @needs_args N.gates l g a HOK.out.args HR.out hgr.1
      have fX := flagX (l := l) hgl'; have fXj := flagX (l := l) hjl'; have fYj := flagX (l := l ++ [(g : Int)]) hjl'; have fZj := flagX (l := [(g : Int)]) hjl'
      have xl := needsM_len N.gates l
      generalize hXX : needsM N.gates l = X at *
      generalize hYY : needsM N.gates (l ++ [(g : Int)]) = Y at *
      generalize hZZ : needsM N.gates [(g : Int)] = Z at *
      have HXX := Lib.hid hXX; have HYY := Lib.hid hYY; have HZZ := Lib.hid hZZ; have HMO := Lib.hid hmore; have HSA := Lib.hid hsame; have HAR := Lib.hid hargs
      have FX := Lib.hid fX; have FXJ := Lib.hid fXj; have FYJ := Lib.hid fYj; have FZJ := Lib.hid fZj; have XL := Lib.hid xl
      clear CH CI hg hj hXX hYY hZZ hmore hsame hargs fX fXj fYj fZj hr1 hr2 hgr hc1 hc2 hd1 hd2 HCH HCI hgl' hjl' xl
      go_enter Try.func3, Try.ntmps3
      go_wp2_with fail
      rw [← HW.out]
      refine (netNeeds_ok i GA gn gc RA rn rc OA on oc N A n c l W HN.out HL.out (by have := HNM.out; omega) HE.out).mono ?_; rintro e' w1 ⟨v, rfl, hown, x1⟩
      rw [HXX.out] at hown
      obtain ⟨B, cb, rfl, -, -, hs⟩ := own_sl hown
      obtain ⟨q0, q1, q2, q3⟩ := HBox.out.keep x1.keeps
      have X1 := Lib.hid x1; have SX := Lib.hid hs; clear x1 hown hs
      go_wp2_with fail
      refine (CHH.out w1).mono ?_; rintro e' w1' ⟨rfl, rfl⟩
      obtain ⟨bG, oG, A', m, c', gt, rfl, g0, g1, g2, hsg, hmc, hcm2, -, hgt⟩ := HN.out.gates.next hgl
      obtain ⟨bB, oB, xg, rfl, hcx, hxg⟩ := SX.out.at_ hgl
      obtain rfl : xg = onI X g := by rw [FX.out] at hxg; exact (Option.some.inj hxg).symm
      have G2 := Lib.hid (X1.out.keeps _ _ g2); have SG := Lib.hid (hsg.keep X1.out.keeps); have CXG := Lib.hid hcx; have GT := Lib.hid hgt; have MC := Lib.hid (Nat.le_trans hmc hcm2)
      have hAI : ∀ y, y ∈ gt.args → y ∈ argsI N.gates g := fun y hy => by unfold argsI; simp [GT.out]; exact hy
      have HAI := Lib.hid hAI
      clear g0 g1 g2 hsg hcx hgt hmc hcm2 hxg hAI
      go_wp2_with fail
      go_loopw [12] (fun k' wr => ∃ a : Nat, a ≤ m ∧ k' = .int .i64 a ∧ wr = w1) (fun k' _ => m - (intOf k').toNat)
      case atStart => exact ⟨0, Nat.zero_le _, rfl, rfl⟩
      case round =>
        obtain ⟨a, ha, rfl, rfl⟩ := hrel
        have hcg2 := G2.out; have hcxg := CXG.out
        have hmm := MC.out; unfold maxLen at hmm
        by_cases hlt : a < m
        · cases hxv : onI X (g : Int)
          · rw [hxv] at hcxg CXG
            have HXV := Lib.hid hxv; clear hxv
            go_upto_region 12 with fail
            go_cut [13, 14] (fun s1 s2 wx => ∃ (Yb : Option Addr) (cy : Nat), s1 = .slice Yb gn cy ∧ s2 = .int .i64 0 ∧ Sl wx Yb gn (Y.map Bv) ∧ Ext wr wx)
            case first =>
              clear hcg2 hcxg hlt ha hmm
              have key : ∀ Q, Ext wr Q → Q.cell? ⟨w.heap.size, 0, none⟩ = some (I i) ∧ Q.cell? ⟨w.heap.size, 1, none⟩ = some (.slice (some ⟨bG, oG, none⟩) gn gc) ∧ Q.cell? ⟨w.heap.size, 2, none⟩ = some (.slice RA rn rc) ∧ Q.cell? ⟨w.heap.size, 3, none⟩ = some (.slice OA on oc) := fun Q hQ => HBox.out.keep (X1.out.trans hQ).keeps
              go_region_held3 (fun w' => w'.cell? ⟨w.heap.size, 0, none⟩ = some (I i) ∧ w'.cell? ⟨w.heap.size, 1, none⟩ = some (.slice (some ⟨bG, oG, none⟩) gn gc) ∧ w'.cell? ⟨w.heap.size, 2, none⟩ = some (.slice RA rn rc) ∧ w'.cell? ⟨w.heap.size, 3, none⟩ = some (.slice OA on oc))
                (exact key _ (by first | exact hxB.trans xC | exact hxB | exact hxA | exact hxA.alloc _ | exact (Ext.refl wr).drew | exact ((Ext.refl wr).alloc _).drew | exact (((Ext.refl wr).alloc _).alloc _).drew))
                (first
                  | (refine step_append0 (by rfl) (.tmp 76) (.tmp 77) 24 3 (by rfl) tab_int' Try.underlying24 rfl (by omega) wr (by first | exact ((Ext.refl wr).alloc _).drew | exact (((Ext.refl wr).alloc _).alloc _).drew) wr.heap.size (by rfl) (by first | exact own_empty wr.drew 3 1 wr.heap.size (Nat.le_refl _) | exact (own_empty wr.drew 3 1 wr.heap.size (Nat.le_refl _)).alloc _) A n c (l.map I) (by rfl) ((HL.out.keep X1.out.keeps).keep (by first | exact (((Ext.refl wr).alloc _).drew).keeps | exact ((((Ext.refl wr).alloc _).alloc _).drew).keeps)) (ints_one l) (by have := HNM.out; omega) (by have := HNM.out; omega) ?_; intro v1 wA hown1 hxA hkA)
                  | (refine step_append0 (by rfl) (.tmp 76) (.tmp 77) 24 3 (by rfl) tab_int' Try.underlying24 rfl (by omega) wr (by first | exact ((Ext.refl wr).alloc _).drew | exact (((Ext.refl wr).alloc _).alloc _).drew) (wr.heap.size + 1) (by rfl) (own_emptyAt (wr.alloc _) 3 1 wr.heap.size (wr.heap.size + 1) (by simp) (by simp)) A n c (l.map I) (by rfl) ((HL.out.keep X1.out.keeps).keep (by first | exact (((Ext.refl wr).alloc _).drew).keeps | exact ((((Ext.refl wr).alloc _).alloc _).drew).keeps)) (ints_one l) (by have := HNM.out; omega) (by have := HNM.out; omega) ?_; intro v1 wA hown1 hxA hkA)
                  | (refine step_appendBig (by rfl) (.tmp 78) (.tmp 80) 24 3 (by rfl) tab_int' Try.underlying24 rfl (by omega) wr (hxA.alloc _) v1 n (l.map I) (by rfl) (hown1.alloc _) (some ⟨wA.heap.size, 0, none⟩) 1 1 [I g] (by rfl) (Sl.newAt wA _ [I g] _ rfl) (by simp [Value.oneCell']) (by have := HNM.out; omega) (by have := HNM.out; omega) ?_; intro v2 wB hown2 hxB hgB hfB; obtain ⟨A2, c2, rfl, -, -, hsl2⟩ := own_sl hown2; clear hgB hfB)
                  | (refine step_appendBig (by rfl) (.tmp 78) (.tmp 80) 24 3 (by rfl) tab_int' Try.underlying24 rfl (by omega) wr hxA v1 n (l.map I) (by rfl) hown1 (some ⟨wr.heap.size + 1, 0, none⟩) 1 1 [I g] (by rfl) (Sl.keep (Sl.newAt _ _ [I g] _ (by simp)) hkA) (by simp [Value.oneCell']) (by have := HNM.out; omega) (by have := HNM.out; omega) ?_; intro v2 wB hown2 hxB hgB hfB; obtain ⟨A2, c2, rfl, -, -, hsl2⟩ := own_sl hown2; clear hgB hfB)
                  | (refine step_appendBig (by rfl) (.tmp 78) (.tmp 80) 24 3 (by rfl) tab_int' Try.underlying24 rfl (by omega) wr hxA v1 n (l.map I) (by rfl) hown1 (some ⟨wr.heap.size, 0, none⟩) 1 1 [I g] (by rfl) (((Sl.newAt wr wr.heap.size [I g] _ rfl).keep ((Keeps.alloc _ _).trans (Keeps.drew _))).keep hkA) (by simp [Value.oneCell']) (by have := HNM.out; omega) (by have := HNM.out; omega) ?_; intro v2 wB hown2 hxB hgB hfB; obtain ⟨A2, c2, rfl, -, -, hsl2⟩ := own_sl hown2; clear hgB hfB)
                  | (go_at_call 26; refine (netNeeds_ok i (some ⟨bG, oG, none⟩) gn gc RA rn rc OA on oc N A2 (n + 1) c2 (l ++ [(g : Int)]) wB ((HN.out.keep X1.out.keeps).keep hxB.keeps) (by simpa using hsl2) (by have := HNM.out; omega) HE1.out).mono ?_; rintro e' wC ⟨vY, rfl, hy, xC⟩; rw [HYY.out] at hy))
              all_goals go_wp2_with fail
              all_goals go_meet
              all_goals
                obtain ⟨Yb, cy, e1, -, -, hsY⟩ := own_sl hy
                exact ⟨Yb, cy, e1, rfl, hsY, hxB.trans xC⟩
            case rest =>
              obtain ⟨Yb, cy, rfl, rfl, hsy, xc⟩ := hcut
              clear hcg2 hcxg hlt ha hmm q0 q1 q2 q3
              obtain ⟨bY, oY, yj, rfl, hcyj, hyj⟩ := hsy.at_ hjl
              obtain rfl : yj = onI Y j := by rw [FYJ.out] at hyj; exact (Option.some.inj hyj).symm
              obtain ⟨q0, q1, q2, q3⟩ := HBox.out.keep (X1.out.trans xc).keeps
              have SY := Lib.hid hsy; have CYC := Lib.hid hcyj; have XC := Lib.hid xc
              clear hsy hcyj hyj xc
              go_wp2_with fail
              refine (netNeeds_ok i (some ⟨bG, oG, none⟩) gn gc RA rn rc OA on oc N (some ⟨wc.heap.size, 0, none⟩) 1 1 [(g : Int)] _ ((HN.out.keep (X1.out.trans XC.out).keeps).keep (Keeps.alloc _ _)) (Sl.newAt wc _ [I g] _ rfl) (by omega) HE2.out).mono ?_; rintro e' w4 ⟨vZ, rfl, hz, x4⟩
              rw [HZZ.out] at hz
              obtain ⟨Zb, cz, rfl, -, -, hsz⟩ := own_sl hz
              obtain ⟨bZ, oZ, zj, rfl, hczj, hzj⟩ := hsz.at_ hjl
              obtain rfl : zj = onI Z j := by rw [FZJ.out] at hzj; exact (Option.some.inj hzj).symm
              have x4' := ((Ext.refl wc).alloc _).trans x4
              have CYJ := Lib.hid (x4'.keeps _ _ CYC.out); have SY5 := Lib.hid (SY.out.keep x4'.keeps); have SX5 := Lib.hid ((SX.out.keep XC.out.keeps).keep x4'.keeps)
              have CXG2 := Lib.hid (x4'.keeps _ _ (XC.out.keeps _ _ CXG.out)); have CZJ := Lib.hid hczj; have X4 := Lib.hid (XC.out.trans x4')
              obtain ⟨b', o', xj, e, hcxj, hxj⟩ := SX5.out.at_ hjl
              cases e
              obtain rfl : xj = onI X j := by rw [FXJ.out] at hxj; exact (Option.some.inj hxj).symm
              have CXJ := Lib.hid hcxj
              have GM : Hid (gn ≤ maxLen) := by unfold Hid maxLen; omega
              rw [HMO.out] at CYJ
              clear x4 x4' hz hsz hczj hzj hxj hcxj q0 q1 q2 q3 CYC SY
              go_wp2_with fail
              refine (CII.out w4).mono ?_; rintro e' w4' ⟨rfl, rfl⟩
              generalize onI X (j : Int) = xj at *
              generalize onI Z (j : Int) = zj at *
              cases xj
              · cases zj
                · go_wp2_with fail
                  refine wp_flow3 31 0 [isV (.bool true), isV (.bool true), isV (.slice (some ⟨bY, oY, none⟩) gn cy), isV (.int .i64 j), isV (.pointer (some ⟨bY, oY + j, none⟩)), isV (.bool false), isV (.slice (some ⟨bB, oB, none⟩) gn cb), isV (.int .i64 j), isV (.pointer (some ⟨bB, oB + j, none⟩)), isV (.bool false), isV (.bool false), isV (.slice (some ⟨bZ, oZ, none⟩) gn cz), isV (.int .i64 j), isV (.pointer (some ⟨bZ, oZ + j, none⟩)), isV (.bool false), isV (.bool false), isV (.bool true), isV (.bool true), isV (.bool true), isV (.slice (some ⟨bB, oB, none⟩) gn cb), isV (.int .i64 g), isV (.pointer (some ⟨bB, oB + g, none⟩)), isV (.bool false), isV (.bool true), isV (.bool true), isV undef, isV undef, isV undef, isV (.bool true), isV (.bool true), isV (.bool true)] (by kernel_rfl) rfl rfl (by kernel_rfl) (by kernel_rfl) ⟨isV_mono, isV_mono, isV_mono, isV_mono, isV_mono, isV_mono, isV_mono, isV_mono, isV_mono, isV_mono, isV_mono, isV_mono, isV_mono, isV_mono, isV_mono, isV_mono, isV_mono, isV_mono, isV_mono, isV_mono, isV_mono, isV_mono, isV_mono, isV_mono, isV_mono, isV_mono, isV_mono, isV_mono, isV_mono, isV_mono, isV_mono, trivial⟩ ?each ?rest
                  case each =>
                    refine .cons ?_ (.cons ?_ (.cons ?_ (.cons ?_ (.cons ?_ (.cons ?_ (.cons ?_ (.cons ?_ (.cons ?_ (.cons ?_ (.cons ?_ (.cons ?_ (.cons ?_ (.cons ?_ (.cons ?_ (.cons ?_ (.cons ?_ (.cons ?_ (.cons ?_ (.cons ?_ (.cons ?_ (.cons ?_ (.cons ?_ (.cons ?_ (.cons ?_ (.cons ?_ (.cons ?_ (.cons ?_ (.cons ?_ (.cons ?_ (.cons ?_ (.nil)))))))))))))))))))))))))))))))
                    · intro fa fw hx hs hb
                      refine .inl ⟨wanted_free rfl, fun K hK => ?_⟩
                      clear hs hb
                      go_simp
                      refine (netBegun_any fw).mono ?_
                      rintro e w' ⟨rfl, xq⟩
                      exact hK _ _ rfl xq
                    · intro fa fw hx hs hb
                      obtain ⟨_, s116, rfl⟩ := hs 0 116 (by kernel_rfl) (by kernel_rfl)
                      refine .inl ⟨wanted_free rfl, fun K hK => ?_⟩
                      clear hs hb hx
                      go_simp
                      exact hK _ _ rfl (Ext.refl _)
                    · intro fa fw hx hs hb
                      obtain ⟨_, s117, rfl⟩ := hs 1 117 (by kernel_rfl) (by kernel_rfl)
                      have s13 : fa.tmps[(13 : Nat)]? = some (.slice (some ⟨bY, oY, none⟩) gn cy) := (hb 13 (by kernel_rfl)).trans (by rfl)
                      refine .inl ⟨wanted_yes 1 true 117 rfl (by kernel_rfl) s117, fun K hK => ?_⟩
                      clear hs hb hx
                      go_simp
                      exact hK _ _ rfl (Ext.refl _)
                    · intro fa fw hx hs hb
                      obtain ⟨_, s117, rfl⟩ := hs 1 117 (by kernel_rfl) (by kernel_rfl)
                      have s17 : fa.tmps[(17 : Nat)]? = some (.int .i64 j) := (hb 17 (by kernel_rfl)).trans (by rfl)
                      refine .inl ⟨wanted_yes 1 true 117 rfl (by kernel_rfl) s117, fun K hK => ?_⟩
                      clear hs hb hx
                      go_simp
                      exact hK _ _ rfl (Ext.refl _)
                    · intro fa fw hx hs hb
                      obtain ⟨_, s117, rfl⟩ := hs 1 117 (by kernel_rfl) (by kernel_rfl)
                      obtain ⟨_, s118, rfl⟩ := hs 2 118 (by kernel_rfl) (by kernel_rfl)
                      obtain ⟨_, s119, rfl⟩ := hs 3 119 (by kernel_rfl) (by kernel_rfl)
                      refine .inl ⟨wanted_yes 1 true 117 rfl (by kernel_rfl) s117, fun K hK => ?_⟩
                      clear hs hb hx
                      go_simp
                      exact hK _ _ rfl (Ext.refl _)
                    · intro fa fw hx hs hb
                      obtain ⟨_, s117, rfl⟩ := hs 1 117 (by kernel_rfl) (by kernel_rfl)
                      obtain ⟨_, s120, rfl⟩ := hs 4 120 (by kernel_rfl) (by kernel_rfl)
                      have c0 := hx.keeps _ _ CYJ.out
                      refine .inl ⟨wanted_yes 1 true 117 rfl (by kernel_rfl) s117, fun K hK => ?_⟩
                      clear hs hb hx
                      go_simp
                      exact hK _ _ rfl (Ext.refl _)
                    · intro fa fw hx hs hb
                      obtain ⟨_, s117, rfl⟩ := hs 1 117 (by kernel_rfl) (by kernel_rfl)
                      have s9 : fa.tmps[(9 : Nat)]? = some (.slice (some ⟨bB, oB, none⟩) gn cb) := (hb 9 (by kernel_rfl)).trans (by rfl)
                      refine .inl ⟨wanted_yes 1 true 117 rfl (by kernel_rfl) s117, fun K hK => ?_⟩
                      clear hs hb hx
                      go_simp
                      exact hK _ _ rfl (Ext.refl _)
                    · intro fa fw hx hs hb
                      obtain ⟨_, s117, rfl⟩ := hs 1 117 (by kernel_rfl) (by kernel_rfl)
                      have s17 : fa.tmps[(17 : Nat)]? = some (.int .i64 j) := (hb 17 (by kernel_rfl)).trans (by rfl)
                      refine .inl ⟨wanted_yes 1 true 117 rfl (by kernel_rfl) s117, fun K hK => ?_⟩
                      clear hs hb hx
                      go_simp
                      exact hK _ _ rfl (Ext.refl _)
                    · intro fa fw hx hs hb
                      obtain ⟨_, s117, rfl⟩ := hs 1 117 (by kernel_rfl) (by kernel_rfl)
                      obtain ⟨_, s122, rfl⟩ := hs 6 122 (by kernel_rfl) (by kernel_rfl)
                      obtain ⟨_, s123, rfl⟩ := hs 7 123 (by kernel_rfl) (by kernel_rfl)
                      refine .inl ⟨wanted_yes 1 true 117 rfl (by kernel_rfl) s117, fun K hK => ?_⟩
                      clear hs hb hx
                      go_simp
                      exact hK _ _ rfl (Ext.refl _)
                    · intro fa fw hx hs hb
                      obtain ⟨_, s117, rfl⟩ := hs 1 117 (by kernel_rfl) (by kernel_rfl)
                      obtain ⟨_, s124, rfl⟩ := hs 8 124 (by kernel_rfl) (by kernel_rfl)
                      have c0 := hx.keeps _ _ CXJ.out
                      refine .inl ⟨wanted_yes 1 true 117 rfl (by kernel_rfl) s117, fun K hK => ?_⟩
                      clear hs hb hx
                      go_simp
                      exact hK _ _ rfl (Ext.refl _)
                    · intro fa fw hx hs hb
                      obtain ⟨_, s117, rfl⟩ := hs 1 117 (by kernel_rfl) (by kernel_rfl)
                      obtain ⟨_, s125, rfl⟩ := hs 9 125 (by kernel_rfl) (by kernel_rfl)
                      refine .inl ⟨wanted_yes 1 true 117 rfl (by kernel_rfl) s117, fun K hK => ?_⟩
                      clear hs hb hx
                      go_simp
                      exact hK _ _ rfl (Ext.refl _)
                    · intro fa fw hx hs hb
                      obtain ⟨_, s126, rfl⟩ := hs 10 126 (by kernel_rfl) (by kernel_rfl)
                      have s15 : fa.tmps[(15 : Nat)]? = some (.slice (some ⟨bZ, oZ, none⟩) gn cz) := (hb 15 (by kernel_rfl)).trans (by rfl)
                      refine .inl ⟨wanted_yes 10 false 126 rfl (by kernel_rfl) s126, fun K hK => ?_⟩
                      clear hs hb hx
                      go_simp
                      exact hK _ _ rfl (Ext.refl _)
                    · intro fa fw hx hs hb
                      obtain ⟨_, s126, rfl⟩ := hs 10 126 (by kernel_rfl) (by kernel_rfl)
                      have s17 : fa.tmps[(17 : Nat)]? = some (.int .i64 j) := (hb 17 (by kernel_rfl)).trans (by rfl)
                      refine .inl ⟨wanted_yes 10 false 126 rfl (by kernel_rfl) s126, fun K hK => ?_⟩
                      clear hs hb hx
                      go_simp
                      exact hK _ _ rfl (Ext.refl _)
                    · intro fa fw hx hs hb
                      obtain ⟨_, s126, rfl⟩ := hs 10 126 (by kernel_rfl) (by kernel_rfl)
                      obtain ⟨_, s127, rfl⟩ := hs 11 127 (by kernel_rfl) (by kernel_rfl)
                      obtain ⟨_, s128, rfl⟩ := hs 12 128 (by kernel_rfl) (by kernel_rfl)
                      refine .inl ⟨wanted_yes 10 false 126 rfl (by kernel_rfl) s126, fun K hK => ?_⟩
                      clear hs hb hx
                      go_simp
                      exact hK _ _ rfl (Ext.refl _)
                    · intro fa fw hx hs hb
                      obtain ⟨_, s126, rfl⟩ := hs 10 126 (by kernel_rfl) (by kernel_rfl)
                      obtain ⟨_, s129, rfl⟩ := hs 13 129 (by kernel_rfl) (by kernel_rfl)
                      have c0 := hx.keeps _ _ CZJ.out
                      refine .inl ⟨wanted_yes 10 false 126 rfl (by kernel_rfl) s126, fun K hK => ?_⟩
                      clear hs hb hx
                      go_simp
                      exact hK _ _ rfl (Ext.refl _)
                    · intro fa fw hx hs hb
                      obtain ⟨_, s117, rfl⟩ := hs 1 117 (by kernel_rfl) (by kernel_rfl)
                      obtain ⟨_, s126, rfl⟩ := hs 10 126 (by kernel_rfl) (by kernel_rfl)
                      obtain ⟨_, s130, rfl⟩ := hs 14 130 (by kernel_rfl) (by kernel_rfl)
                      refine .inl ⟨wanted_yes 1 true 117 rfl (by kernel_rfl) s117, fun K hK => ?_⟩
                      clear hs hb hx
                      go_simp
                      exact hK _ _ rfl (Ext.refl _)
                    · intro fa fw hx hs hb
                      obtain ⟨_, s117, rfl⟩ := hs 1 117 (by kernel_rfl) (by kernel_rfl)
                      obtain ⟨_, s121, rfl⟩ := hs 5 121 (by kernel_rfl) (by kernel_rfl)
                      obtain ⟨_, s131, rfl⟩ := hs 15 131 (by kernel_rfl) (by kernel_rfl)
                      refine .inl ⟨wanted_yes 1 true 117 rfl (by kernel_rfl) s117, fun K hK => ?_⟩
                      clear hs hb hx
                      go_simp
                      exact hK _ _ rfl (Ext.refl _)
                    · intro fa fw hx hs hb
                      obtain ⟨_, s117, rfl⟩ := hs 1 117 (by kernel_rfl) (by kernel_rfl)
                      obtain ⟨_, s132, rfl⟩ := hs 16 132 (by kernel_rfl) (by kernel_rfl)
                      refine .inl ⟨wanted_free rfl, fun K hK => ?_⟩
                      clear hs hb hx
                      go_simp
                      exact hK _ _ rfl (Ext.refl _)
                    · intro fa fw hx hs hb
                      obtain ⟨_, s133, rfl⟩ := hs 17 133 (by kernel_rfl) (by kernel_rfl)
                      refine .inl ⟨wanted_free rfl, fun K hK => ?_⟩
                      clear hs hb hx
                      go_simp
                      exact hK _ _ rfl (Ext.refl _)
                    · intro fa fw hx hs hb
                      obtain ⟨_, s134, rfl⟩ := hs 18 134 (by kernel_rfl) (by kernel_rfl)
                      have s9 : fa.tmps[(9 : Nat)]? = some (.slice (some ⟨bB, oB, none⟩) gn cb) := (hb 9 (by kernel_rfl)).trans (by rfl)
                      refine .inl ⟨wanted_yes 18 true 134 rfl (by kernel_rfl) s134, fun K hK => ?_⟩
                      clear hs hb hx
                      go_simp
                      exact hK _ _ rfl (Ext.refl _)
                    · intro fa fw hx hs hb
                      obtain ⟨_, s134, rfl⟩ := hs 18 134 (by kernel_rfl) (by kernel_rfl)
                      have s11 : fa.tmps[(11 : Nat)]? = some (.int .i64 g) := (hb 11 (by kernel_rfl)).trans (by rfl)
                      refine .inl ⟨wanted_yes 18 true 134 rfl (by kernel_rfl) s134, fun K hK => ?_⟩
                      clear hs hb hx
                      go_simp
                      exact hK _ _ rfl (Ext.refl _)
                    · intro fa fw hx hs hb
                      obtain ⟨_, s134, rfl⟩ := hs 18 134 (by kernel_rfl) (by kernel_rfl)
                      obtain ⟨_, s135, rfl⟩ := hs 19 135 (by kernel_rfl) (by kernel_rfl)
                      obtain ⟨_, s136, rfl⟩ := hs 20 136 (by kernel_rfl) (by kernel_rfl)
                      refine .inl ⟨wanted_yes 18 true 134 rfl (by kernel_rfl) s134, fun K hK => ?_⟩
                      clear hs hb hx
                      go_simp
                      exact hK _ _ rfl (Ext.refl _)
                    · intro fa fw hx hs hb
                      obtain ⟨_, s134, rfl⟩ := hs 18 134 (by kernel_rfl) (by kernel_rfl)
                      obtain ⟨_, s137, rfl⟩ := hs 21 137 (by kernel_rfl) (by kernel_rfl)
                      have c0 := hx.keeps _ _ CXG2.out
                      refine .inl ⟨wanted_yes 18 true 134 rfl (by kernel_rfl) s134, fun K hK => ?_⟩
                      clear hs hb hx
                      go_simp
                      exact hK _ _ rfl (Ext.refl _)
                    · intro fa fw hx hs hb
                      obtain ⟨_, s134, rfl⟩ := hs 18 134 (by kernel_rfl) (by kernel_rfl)
                      obtain ⟨_, s138, rfl⟩ := hs 22 138 (by kernel_rfl) (by kernel_rfl)
                      refine .inl ⟨wanted_yes 18 true 134 rfl (by kernel_rfl) s134, fun K hK => ?_⟩
                      clear hs hb hx
                      go_simp
                      exact hK _ _ rfl (Ext.refl _)
                    · intro fa fw hx hs hb
                      obtain ⟨_, s134, rfl⟩ := hs 18 134 (by kernel_rfl) (by kernel_rfl)
                      obtain ⟨_, s139, rfl⟩ := hs 23 139 (by kernel_rfl) (by kernel_rfl)
                      refine .inl ⟨wanted_yes 18 true 134 rfl (by kernel_rfl) s134, fun K hK => ?_⟩
                      clear hs hb hx
                      go_simp
                      exact hK _ _ rfl (Ext.refl _)
                    · intro fa fw hx hs hb
                      obtain ⟨_, s140, rfl⟩ := hs 24 140 (by kernel_rfl) (by kernel_rfl)
                      exact .inr ⟨wanted_no 24 false 140 rfl (by kernel_rfl) s140, rfl⟩
                    · intro fa fw hx hs hb
                      obtain ⟨_, s140, rfl⟩ := hs 24 140 (by kernel_rfl) (by kernel_rfl)
                      exact .inr ⟨wanted_no 24 false 140 rfl (by kernel_rfl) s140, rfl⟩
                    · intro fa fw hx hs hb
                      obtain ⟨_, s140, rfl⟩ := hs 24 140 (by kernel_rfl) (by kernel_rfl)
                      exact .inr ⟨wanted_no 24 false 140 rfl (by kernel_rfl) s140, rfl⟩
                    · intro fa fw hx hs hb
                      obtain ⟨_, s134, rfl⟩ := hs 18 134 (by kernel_rfl) (by kernel_rfl)
                      obtain ⟨_, s140, rfl⟩ := hs 24 140 (by kernel_rfl) (by kernel_rfl)
                      obtain ⟨_, s143, rfl⟩ := hs 27 143 (by kernel_rfl) (by kernel_rfl)
                      refine .inl ⟨wanted_yes 18 true 134 rfl (by kernel_rfl) s134, fun K hK => ?_⟩
                      clear hs hb hx
                      go_simp
                      exact hK _ _ rfl (Ext.refl _)
                    · intro fa fw hx hs hb
                      obtain ⟨_, s134, rfl⟩ := hs 18 134 (by kernel_rfl) (by kernel_rfl)
                      obtain ⟨_, s144, rfl⟩ := hs 28 144 (by kernel_rfl) (by kernel_rfl)
                      refine .inl ⟨wanted_free rfl, fun K hK => ?_⟩
                      clear hs hb hx
                      go_simp
                      exact hK _ _ rfl (Ext.refl _)
                    · intro fa fw hx hs hb
                      obtain ⟨_, s145, rfl⟩ := hs 29 145 (by kernel_rfl) (by kernel_rfl)
                      refine .inl ⟨wanted_free rfl, fun K hK => ?_⟩
                      clear hs hb hx
                      go_simp
                      exact hK _ _ rfl (Ext.refl _)
                  case rest =>
                    intro w7 hxw7
                    rintro _ rfl
                    rintro _ rfl
                    rintro _ rfl
                    rintro _ rfl
                    rintro _ rfl
                    rintro _ rfl
                    rintro _ rfl
                    rintro _ rfl
                    rintro _ rfl
                    rintro _ rfl
                    rintro _ rfl
                    rintro _ rfl
                    rintro _ rfl
                    rintro _ rfl
                    rintro _ rfl
                    rintro _ rfl
                    rintro _ rfl
                    rintro _ rfl
                    rintro _ rfl
                    rintro _ rfl
                    rintro _ rfl
                    rintro _ rfl
                    rintro _ rfl
                    rintro _ rfl
                    rintro _ rfl
                    rintro _ rfl
                    rintro _ rfl
                    rintro _ rfl
                    rintro _ rfl
                    rintro _ rfl
                    rintro _ rfl
                    simp only [putAll, List.take, Act.put, List.setIfInBounds_toArray, List.set_cons_zero, List.set_cons_succ]
                    refine wpAny_done (by kernel_rfl) ?_ _
                    go_wp2
                    go_ret
                    exact ⟨rfl, HX.out.trans (X1.out.trans (X4.out.trans hxw7))⟩
                · go_wp2_with fail
                  refine wp_flow3 31 0 [isV (.bool true), isV (.bool true), isV (.slice (some ⟨bY, oY, none⟩) gn cy), isV (.int .i64 j), isV (.pointer (some ⟨bY, oY + j, none⟩)), isV (.bool true), isV (.slice (some ⟨bB, oB, none⟩) gn cb), isV (.int .i64 j), isV (.pointer (some ⟨bB, oB + j, none⟩)), isV (.bool false), isV (.bool false), isV (.slice (some ⟨bZ, oZ, none⟩) gn cz), isV (.int .i64 j), isV (.pointer (some ⟨bZ, oZ + j, none⟩)), isV (.bool true), isV (.bool true), isV (.bool true), isV (.bool true), isV (.bool true), isV (.slice (some ⟨bB, oB, none⟩) gn cb), isV (.int .i64 g), isV (.pointer (some ⟨bB, oB + g, none⟩)), isV (.bool false), isV (.bool true), isV (.bool true), isV undef, isV undef, isV undef, isV (.bool true), isV (.bool true), isV (.bool true)] (by kernel_rfl) rfl rfl (by kernel_rfl) (by kernel_rfl) ⟨isV_mono, isV_mono, isV_mono, isV_mono, isV_mono, isV_mono, isV_mono, isV_mono, isV_mono, isV_mono, isV_mono, isV_mono, isV_mono, isV_mono, isV_mono, isV_mono, isV_mono, isV_mono, isV_mono, isV_mono, isV_mono, isV_mono, isV_mono, isV_mono, isV_mono, isV_mono, isV_mono, isV_mono, isV_mono, isV_mono, isV_mono, trivial⟩ ?each ?rest
                  case each =>
                    refine .cons ?_ (.cons ?_ (.cons ?_ (.cons ?_ (.cons ?_ (.cons ?_ (.cons ?_ (.cons ?_ (.cons ?_ (.cons ?_ (.cons ?_ (.cons ?_ (.cons ?_ (.cons ?_ (.cons ?_ (.cons ?_ (.cons ?_ (.cons ?_ (.cons ?_ (.cons ?_ (.cons ?_ (.cons ?_ (.cons ?_ (.cons ?_ (.cons ?_ (.cons ?_ (.cons ?_ (.cons ?_ (.cons ?_ (.cons ?_ (.cons ?_ (.nil)))))))))))))))))))))))))))))))
                    · intro fa fw hx hs hb
                      refine .inl ⟨wanted_free rfl, fun K hK => ?_⟩
                      clear hs hb
                      go_simp
                      refine (netBegun_any fw).mono ?_
                      rintro e w' ⟨rfl, xq⟩
                      exact hK _ _ rfl xq
                    · intro fa fw hx hs hb
                      obtain ⟨_, s116, rfl⟩ := hs 0 116 (by kernel_rfl) (by kernel_rfl)
                      refine .inl ⟨wanted_free rfl, fun K hK => ?_⟩
                      clear hs hb hx
                      go_simp
                      exact hK _ _ rfl (Ext.refl _)
                    · intro fa fw hx hs hb
                      obtain ⟨_, s117, rfl⟩ := hs 1 117 (by kernel_rfl) (by kernel_rfl)
                      have s13 : fa.tmps[(13 : Nat)]? = some (.slice (some ⟨bY, oY, none⟩) gn cy) := (hb 13 (by kernel_rfl)).trans (by rfl)
                      refine .inl ⟨wanted_yes 1 true 117 rfl (by kernel_rfl) s117, fun K hK => ?_⟩
                      clear hs hb hx
                      go_simp
                      exact hK _ _ rfl (Ext.refl _)
                    · intro fa fw hx hs hb
                      obtain ⟨_, s117, rfl⟩ := hs 1 117 (by kernel_rfl) (by kernel_rfl)
                      have s17 : fa.tmps[(17 : Nat)]? = some (.int .i64 j) := (hb 17 (by kernel_rfl)).trans (by rfl)
                      refine .inl ⟨wanted_yes 1 true 117 rfl (by kernel_rfl) s117, fun K hK => ?_⟩
                      clear hs hb hx
                      go_simp
                      exact hK _ _ rfl (Ext.refl _)
                    · intro fa fw hx hs hb
                      obtain ⟨_, s117, rfl⟩ := hs 1 117 (by kernel_rfl) (by kernel_rfl)
                      obtain ⟨_, s118, rfl⟩ := hs 2 118 (by kernel_rfl) (by kernel_rfl)
                      obtain ⟨_, s119, rfl⟩ := hs 3 119 (by kernel_rfl) (by kernel_rfl)
                      refine .inl ⟨wanted_yes 1 true 117 rfl (by kernel_rfl) s117, fun K hK => ?_⟩
                      clear hs hb hx
                      go_simp
                      exact hK _ _ rfl (Ext.refl _)
                    · intro fa fw hx hs hb
                      obtain ⟨_, s117, rfl⟩ := hs 1 117 (by kernel_rfl) (by kernel_rfl)
                      obtain ⟨_, s120, rfl⟩ := hs 4 120 (by kernel_rfl) (by kernel_rfl)
                      have c0 := hx.keeps _ _ CYJ.out
                      refine .inl ⟨wanted_yes 1 true 117 rfl (by kernel_rfl) s117, fun K hK => ?_⟩
                      clear hs hb hx
                      go_simp
                      exact hK _ _ rfl (Ext.refl _)
                    · intro fa fw hx hs hb
                      obtain ⟨_, s117, rfl⟩ := hs 1 117 (by kernel_rfl) (by kernel_rfl)
                      have s9 : fa.tmps[(9 : Nat)]? = some (.slice (some ⟨bB, oB, none⟩) gn cb) := (hb 9 (by kernel_rfl)).trans (by rfl)
                      refine .inl ⟨wanted_yes 1 true 117 rfl (by kernel_rfl) s117, fun K hK => ?_⟩
                      clear hs hb hx
                      go_simp
                      exact hK _ _ rfl (Ext.refl _)
                    · intro fa fw hx hs hb
                      obtain ⟨_, s117, rfl⟩ := hs 1 117 (by kernel_rfl) (by kernel_rfl)
                      have s17 : fa.tmps[(17 : Nat)]? = some (.int .i64 j) := (hb 17 (by kernel_rfl)).trans (by rfl)
                      refine .inl ⟨wanted_yes 1 true 117 rfl (by kernel_rfl) s117, fun K hK => ?_⟩
                      clear hs hb hx
                      go_simp
                      exact hK _ _ rfl (Ext.refl _)
                    · intro fa fw hx hs hb
                      obtain ⟨_, s117, rfl⟩ := hs 1 117 (by kernel_rfl) (by kernel_rfl)
                      obtain ⟨_, s122, rfl⟩ := hs 6 122 (by kernel_rfl) (by kernel_rfl)
                      obtain ⟨_, s123, rfl⟩ := hs 7 123 (by kernel_rfl) (by kernel_rfl)
                      refine .inl ⟨wanted_yes 1 true 117 rfl (by kernel_rfl) s117, fun K hK => ?_⟩
                      clear hs hb hx
                      go_simp
                      exact hK _ _ rfl (Ext.refl _)
                    · intro fa fw hx hs hb
                      obtain ⟨_, s117, rfl⟩ := hs 1 117 (by kernel_rfl) (by kernel_rfl)
                      obtain ⟨_, s124, rfl⟩ := hs 8 124 (by kernel_rfl) (by kernel_rfl)
                      have c0 := hx.keeps _ _ CXJ.out
                      refine .inl ⟨wanted_yes 1 true 117 rfl (by kernel_rfl) s117, fun K hK => ?_⟩
                      clear hs hb hx
                      go_simp
                      exact hK _ _ rfl (Ext.refl _)
                    · intro fa fw hx hs hb
                      obtain ⟨_, s117, rfl⟩ := hs 1 117 (by kernel_rfl) (by kernel_rfl)
                      obtain ⟨_, s125, rfl⟩ := hs 9 125 (by kernel_rfl) (by kernel_rfl)
                      refine .inl ⟨wanted_yes 1 true 117 rfl (by kernel_rfl) s117, fun K hK => ?_⟩
                      clear hs hb hx
                      go_simp
                      exact hK _ _ rfl (Ext.refl _)
                    · intro fa fw hx hs hb
                      obtain ⟨_, s126, rfl⟩ := hs 10 126 (by kernel_rfl) (by kernel_rfl)
                      have s15 : fa.tmps[(15 : Nat)]? = some (.slice (some ⟨bZ, oZ, none⟩) gn cz) := (hb 15 (by kernel_rfl)).trans (by rfl)
                      refine .inl ⟨wanted_yes 10 false 126 rfl (by kernel_rfl) s126, fun K hK => ?_⟩
                      clear hs hb hx
                      go_simp
                      exact hK _ _ rfl (Ext.refl _)
                    · intro fa fw hx hs hb
                      obtain ⟨_, s126, rfl⟩ := hs 10 126 (by kernel_rfl) (by kernel_rfl)
                      have s17 : fa.tmps[(17 : Nat)]? = some (.int .i64 j) := (hb 17 (by kernel_rfl)).trans (by rfl)
                      refine .inl ⟨wanted_yes 10 false 126 rfl (by kernel_rfl) s126, fun K hK => ?_⟩
                      clear hs hb hx
                      go_simp
                      exact hK _ _ rfl (Ext.refl _)
                    · intro fa fw hx hs hb
                      obtain ⟨_, s126, rfl⟩ := hs 10 126 (by kernel_rfl) (by kernel_rfl)
                      obtain ⟨_, s127, rfl⟩ := hs 11 127 (by kernel_rfl) (by kernel_rfl)
                      obtain ⟨_, s128, rfl⟩ := hs 12 128 (by kernel_rfl) (by kernel_rfl)
                      refine .inl ⟨wanted_yes 10 false 126 rfl (by kernel_rfl) s126, fun K hK => ?_⟩
                      clear hs hb hx
                      go_simp
                      exact hK _ _ rfl (Ext.refl _)
                    · intro fa fw hx hs hb
                      obtain ⟨_, s126, rfl⟩ := hs 10 126 (by kernel_rfl) (by kernel_rfl)
                      obtain ⟨_, s129, rfl⟩ := hs 13 129 (by kernel_rfl) (by kernel_rfl)
                      have c0 := hx.keeps _ _ CZJ.out
                      refine .inl ⟨wanted_yes 10 false 126 rfl (by kernel_rfl) s126, fun K hK => ?_⟩
                      clear hs hb hx
                      go_simp
                      exact hK _ _ rfl (Ext.refl _)
                    · intro fa fw hx hs hb
                      obtain ⟨_, s117, rfl⟩ := hs 1 117 (by kernel_rfl) (by kernel_rfl)
                      obtain ⟨_, s126, rfl⟩ := hs 10 126 (by kernel_rfl) (by kernel_rfl)
                      obtain ⟨_, s130, rfl⟩ := hs 14 130 (by kernel_rfl) (by kernel_rfl)
                      refine .inl ⟨wanted_yes 1 true 117 rfl (by kernel_rfl) s117, fun K hK => ?_⟩
                      clear hs hb hx
                      go_simp
                      exact hK _ _ rfl (Ext.refl _)
                    · intro fa fw hx hs hb
                      obtain ⟨_, s117, rfl⟩ := hs 1 117 (by kernel_rfl) (by kernel_rfl)
                      obtain ⟨_, s121, rfl⟩ := hs 5 121 (by kernel_rfl) (by kernel_rfl)
                      obtain ⟨_, s131, rfl⟩ := hs 15 131 (by kernel_rfl) (by kernel_rfl)
                      refine .inl ⟨wanted_yes 1 true 117 rfl (by kernel_rfl) s117, fun K hK => ?_⟩
                      clear hs hb hx
                      go_simp
                      exact hK _ _ rfl (Ext.refl _)
                    · intro fa fw hx hs hb
                      obtain ⟨_, s117, rfl⟩ := hs 1 117 (by kernel_rfl) (by kernel_rfl)
                      obtain ⟨_, s132, rfl⟩ := hs 16 132 (by kernel_rfl) (by kernel_rfl)
                      refine .inl ⟨wanted_free rfl, fun K hK => ?_⟩
                      clear hs hb hx
                      go_simp
                      exact hK _ _ rfl (Ext.refl _)
                    · intro fa fw hx hs hb
                      obtain ⟨_, s133, rfl⟩ := hs 17 133 (by kernel_rfl) (by kernel_rfl)
                      refine .inl ⟨wanted_free rfl, fun K hK => ?_⟩
                      clear hs hb hx
                      go_simp
                      exact hK _ _ rfl (Ext.refl _)
                    · intro fa fw hx hs hb
                      obtain ⟨_, s134, rfl⟩ := hs 18 134 (by kernel_rfl) (by kernel_rfl)
                      have s9 : fa.tmps[(9 : Nat)]? = some (.slice (some ⟨bB, oB, none⟩) gn cb) := (hb 9 (by kernel_rfl)).trans (by rfl)
                      refine .inl ⟨wanted_yes 18 true 134 rfl (by kernel_rfl) s134, fun K hK => ?_⟩
                      clear hs hb hx
                      go_simp
                      exact hK _ _ rfl (Ext.refl _)
                    · intro fa fw hx hs hb
                      obtain ⟨_, s134, rfl⟩ := hs 18 134 (by kernel_rfl) (by kernel_rfl)
                      have s11 : fa.tmps[(11 : Nat)]? = some (.int .i64 g) := (hb 11 (by kernel_rfl)).trans (by rfl)
                      refine .inl ⟨wanted_yes 18 true 134 rfl (by kernel_rfl) s134, fun K hK => ?_⟩
                      clear hs hb hx
                      go_simp
                      exact hK _ _ rfl (Ext.refl _)
                    · intro fa fw hx hs hb
                      obtain ⟨_, s134, rfl⟩ := hs 18 134 (by kernel_rfl) (by kernel_rfl)
                      obtain ⟨_, s135, rfl⟩ := hs 19 135 (by kernel_rfl) (by kernel_rfl)
                      obtain ⟨_, s136, rfl⟩ := hs 20 136 (by kernel_rfl) (by kernel_rfl)
                      refine .inl ⟨wanted_yes 18 true 134 rfl (by kernel_rfl) s134, fun K hK => ?_⟩
                      clear hs hb hx
                      go_simp
                      exact hK _ _ rfl (Ext.refl _)
                    · intro fa fw hx hs hb
                      obtain ⟨_, s134, rfl⟩ := hs 18 134 (by kernel_rfl) (by kernel_rfl)
                      obtain ⟨_, s137, rfl⟩ := hs 21 137 (by kernel_rfl) (by kernel_rfl)
                      have c0 := hx.keeps _ _ CXG2.out
                      refine .inl ⟨wanted_yes 18 true 134 rfl (by kernel_rfl) s134, fun K hK => ?_⟩
                      clear hs hb hx
                      go_simp
                      exact hK _ _ rfl (Ext.refl _)
                    · intro fa fw hx hs hb
                      obtain ⟨_, s134, rfl⟩ := hs 18 134 (by kernel_rfl) (by kernel_rfl)
                      obtain ⟨_, s138, rfl⟩ := hs 22 138 (by kernel_rfl) (by kernel_rfl)
                      refine .inl ⟨wanted_yes 18 true 134 rfl (by kernel_rfl) s134, fun K hK => ?_⟩
                      clear hs hb hx
                      go_simp
                      exact hK _ _ rfl (Ext.refl _)
                    · intro fa fw hx hs hb
                      obtain ⟨_, s134, rfl⟩ := hs 18 134 (by kernel_rfl) (by kernel_rfl)
                      obtain ⟨_, s139, rfl⟩ := hs 23 139 (by kernel_rfl) (by kernel_rfl)
                      refine .inl ⟨wanted_yes 18 true 134 rfl (by kernel_rfl) s134, fun K hK => ?_⟩
                      clear hs hb hx
                      go_simp
                      exact hK _ _ rfl (Ext.refl _)
                    · intro fa fw hx hs hb
                      obtain ⟨_, s140, rfl⟩ := hs 24 140 (by kernel_rfl) (by kernel_rfl)
                      exact .inr ⟨wanted_no 24 false 140 rfl (by kernel_rfl) s140, rfl⟩
                    · intro fa fw hx hs hb
                      obtain ⟨_, s140, rfl⟩ := hs 24 140 (by kernel_rfl) (by kernel_rfl)
                      exact .inr ⟨wanted_no 24 false 140 rfl (by kernel_rfl) s140, rfl⟩
                    · intro fa fw hx hs hb
                      obtain ⟨_, s140, rfl⟩ := hs 24 140 (by kernel_rfl) (by kernel_rfl)
                      exact .inr ⟨wanted_no 24 false 140 rfl (by kernel_rfl) s140, rfl⟩
                    · intro fa fw hx hs hb
                      obtain ⟨_, s134, rfl⟩ := hs 18 134 (by kernel_rfl) (by kernel_rfl)
                      obtain ⟨_, s140, rfl⟩ := hs 24 140 (by kernel_rfl) (by kernel_rfl)
                      obtain ⟨_, s143, rfl⟩ := hs 27 143 (by kernel_rfl) (by kernel_rfl)
                      refine .inl ⟨wanted_yes 18 true 134 rfl (by kernel_rfl) s134, fun K hK => ?_⟩
                      clear hs hb hx
                      go_simp
                      exact hK _ _ rfl (Ext.refl _)
                    · intro fa fw hx hs hb
                      obtain ⟨_, s134, rfl⟩ := hs 18 134 (by kernel_rfl) (by kernel_rfl)
                      obtain ⟨_, s144, rfl⟩ := hs 28 144 (by kernel_rfl) (by kernel_rfl)
                      refine .inl ⟨wanted_free rfl, fun K hK => ?_⟩
                      clear hs hb hx
                      go_simp
                      exact hK _ _ rfl (Ext.refl _)
                    · intro fa fw hx hs hb
                      obtain ⟨_, s145, rfl⟩ := hs 29 145 (by kernel_rfl) (by kernel_rfl)
                      refine .inl ⟨wanted_free rfl, fun K hK => ?_⟩
                      clear hs hb hx
                      go_simp
                      exact hK _ _ rfl (Ext.refl _)
                  case rest =>
                    intro w7 hxw7
                    rintro _ rfl
                    rintro _ rfl
                    rintro _ rfl
                    rintro _ rfl
                    rintro _ rfl
                    rintro _ rfl
                    rintro _ rfl
                    rintro _ rfl
                    rintro _ rfl
                    rintro _ rfl
                    rintro _ rfl
                    rintro _ rfl
                    rintro _ rfl
                    rintro _ rfl
                    rintro _ rfl
                    rintro _ rfl
                    rintro _ rfl
                    rintro _ rfl
                    rintro _ rfl
                    rintro _ rfl
                    rintro _ rfl
                    rintro _ rfl
                    rintro _ rfl
                    rintro _ rfl
                    rintro _ rfl
                    rintro _ rfl
                    rintro _ rfl
                    rintro _ rfl
                    rintro _ rfl
                    rintro _ rfl
                    rintro _ rfl
                    simp only [putAll, List.take, Act.put, List.setIfInBounds_toArray, List.set_cons_zero, List.set_cons_succ]
                    refine wpAny_done (by kernel_rfl) ?_ _
                    go_wp2
                    go_ret
                    exact ⟨rfl, HX.out.trans (X1.out.trans (X4.out.trans hxw7))⟩
              · go_wp2_with fail
                refine wp_flow3 31 0 [isV (.bool true), isV (.bool true), isV (.slice (some ⟨bY, oY, none⟩) gn cy), isV (.int .i64 j), isV (.pointer (some ⟨bY, oY + j, none⟩)), isV (.bool true), isV (.slice (some ⟨bB, oB, none⟩) gn cb), isV (.int .i64 j), isV (.pointer (some ⟨bB, oB + j, none⟩)), isV (.bool true), isV (.bool true), isV undef, isV undef, isV undef, isV undef, isV (.bool true), isV (.bool true), isV (.bool true), isV (.bool true), isV (.slice (some ⟨bB, oB, none⟩) gn cb), isV (.int .i64 g), isV (.pointer (some ⟨bB, oB + g, none⟩)), isV (.bool false), isV (.bool true), isV (.bool true), isV undef, isV undef, isV undef, isV (.bool true), isV (.bool true), isV (.bool true)] (by kernel_rfl) rfl rfl (by kernel_rfl) (by kernel_rfl) ⟨isV_mono, isV_mono, isV_mono, isV_mono, isV_mono, isV_mono, isV_mono, isV_mono, isV_mono, isV_mono, isV_mono, isV_mono, isV_mono, isV_mono, isV_mono, isV_mono, isV_mono, isV_mono, isV_mono, isV_mono, isV_mono, isV_mono, isV_mono, isV_mono, isV_mono, isV_mono, isV_mono, isV_mono, isV_mono, isV_mono, isV_mono, trivial⟩ ?each ?rest
                case each =>
                  refine .cons ?_ (.cons ?_ (.cons ?_ (.cons ?_ (.cons ?_ (.cons ?_ (.cons ?_ (.cons ?_ (.cons ?_ (.cons ?_ (.cons ?_ (.cons ?_ (.cons ?_ (.cons ?_ (.cons ?_ (.cons ?_ (.cons ?_ (.cons ?_ (.cons ?_ (.cons ?_ (.cons ?_ (.cons ?_ (.cons ?_ (.cons ?_ (.cons ?_ (.cons ?_ (.cons ?_ (.cons ?_ (.cons ?_ (.cons ?_ (.cons ?_ (.nil)))))))))))))))))))))))))))))))
                  · intro fa fw hx hs hb
                    refine .inl ⟨wanted_free rfl, fun K hK => ?_⟩
                    clear hs hb
                    go_simp
                    refine (netBegun_any fw).mono ?_
                    rintro e w' ⟨rfl, xq⟩
                    exact hK _ _ rfl xq
                  · intro fa fw hx hs hb
                    obtain ⟨_, s116, rfl⟩ := hs 0 116 (by kernel_rfl) (by kernel_rfl)
                    refine .inl ⟨wanted_free rfl, fun K hK => ?_⟩
                    clear hs hb hx
                    go_simp
                    exact hK _ _ rfl (Ext.refl _)
                  · intro fa fw hx hs hb
                    obtain ⟨_, s117, rfl⟩ := hs 1 117 (by kernel_rfl) (by kernel_rfl)
                    have s13 : fa.tmps[(13 : Nat)]? = some (.slice (some ⟨bY, oY, none⟩) gn cy) := (hb 13 (by kernel_rfl)).trans (by rfl)
                    refine .inl ⟨wanted_yes 1 true 117 rfl (by kernel_rfl) s117, fun K hK => ?_⟩
                    clear hs hb hx
                    go_simp
                    exact hK _ _ rfl (Ext.refl _)
                  · intro fa fw hx hs hb
                    obtain ⟨_, s117, rfl⟩ := hs 1 117 (by kernel_rfl) (by kernel_rfl)
                    have s17 : fa.tmps[(17 : Nat)]? = some (.int .i64 j) := (hb 17 (by kernel_rfl)).trans (by rfl)
                    refine .inl ⟨wanted_yes 1 true 117 rfl (by kernel_rfl) s117, fun K hK => ?_⟩
                    clear hs hb hx
                    go_simp
                    exact hK _ _ rfl (Ext.refl _)
                  · intro fa fw hx hs hb
                    obtain ⟨_, s117, rfl⟩ := hs 1 117 (by kernel_rfl) (by kernel_rfl)
                    obtain ⟨_, s118, rfl⟩ := hs 2 118 (by kernel_rfl) (by kernel_rfl)
                    obtain ⟨_, s119, rfl⟩ := hs 3 119 (by kernel_rfl) (by kernel_rfl)
                    refine .inl ⟨wanted_yes 1 true 117 rfl (by kernel_rfl) s117, fun K hK => ?_⟩
                    clear hs hb hx
                    go_simp
                    exact hK _ _ rfl (Ext.refl _)
                  · intro fa fw hx hs hb
                    obtain ⟨_, s117, rfl⟩ := hs 1 117 (by kernel_rfl) (by kernel_rfl)
                    obtain ⟨_, s120, rfl⟩ := hs 4 120 (by kernel_rfl) (by kernel_rfl)
                    have c0 := hx.keeps _ _ CYJ.out
                    refine .inl ⟨wanted_yes 1 true 117 rfl (by kernel_rfl) s117, fun K hK => ?_⟩
                    clear hs hb hx
                    go_simp
                    exact hK _ _ rfl (Ext.refl _)
                  · intro fa fw hx hs hb
                    obtain ⟨_, s117, rfl⟩ := hs 1 117 (by kernel_rfl) (by kernel_rfl)
                    have s9 : fa.tmps[(9 : Nat)]? = some (.slice (some ⟨bB, oB, none⟩) gn cb) := (hb 9 (by kernel_rfl)).trans (by rfl)
                    refine .inl ⟨wanted_yes 1 true 117 rfl (by kernel_rfl) s117, fun K hK => ?_⟩
                    clear hs hb hx
                    go_simp
                    exact hK _ _ rfl (Ext.refl _)
                  · intro fa fw hx hs hb
                    obtain ⟨_, s117, rfl⟩ := hs 1 117 (by kernel_rfl) (by kernel_rfl)
                    have s17 : fa.tmps[(17 : Nat)]? = some (.int .i64 j) := (hb 17 (by kernel_rfl)).trans (by rfl)
                    refine .inl ⟨wanted_yes 1 true 117 rfl (by kernel_rfl) s117, fun K hK => ?_⟩
                    clear hs hb hx
                    go_simp
                    exact hK _ _ rfl (Ext.refl _)
                  · intro fa fw hx hs hb
                    obtain ⟨_, s117, rfl⟩ := hs 1 117 (by kernel_rfl) (by kernel_rfl)
                    obtain ⟨_, s122, rfl⟩ := hs 6 122 (by kernel_rfl) (by kernel_rfl)
                    obtain ⟨_, s123, rfl⟩ := hs 7 123 (by kernel_rfl) (by kernel_rfl)
                    refine .inl ⟨wanted_yes 1 true 117 rfl (by kernel_rfl) s117, fun K hK => ?_⟩
                    clear hs hb hx
                    go_simp
                    exact hK _ _ rfl (Ext.refl _)
                  · intro fa fw hx hs hb
                    obtain ⟨_, s117, rfl⟩ := hs 1 117 (by kernel_rfl) (by kernel_rfl)
                    obtain ⟨_, s124, rfl⟩ := hs 8 124 (by kernel_rfl) (by kernel_rfl)
                    have c0 := hx.keeps _ _ CXJ.out
                    refine .inl ⟨wanted_yes 1 true 117 rfl (by kernel_rfl) s117, fun K hK => ?_⟩
                    clear hs hb hx
                    go_simp
                    exact hK _ _ rfl (Ext.refl _)
                  · intro fa fw hx hs hb
                    obtain ⟨_, s117, rfl⟩ := hs 1 117 (by kernel_rfl) (by kernel_rfl)
                    obtain ⟨_, s125, rfl⟩ := hs 9 125 (by kernel_rfl) (by kernel_rfl)
                    refine .inl ⟨wanted_yes 1 true 117 rfl (by kernel_rfl) s117, fun K hK => ?_⟩
                    clear hs hb hx
                    go_simp
                    exact hK _ _ rfl (Ext.refl _)
                  · intro fa fw hx hs hb
                    obtain ⟨_, s126, rfl⟩ := hs 10 126 (by kernel_rfl) (by kernel_rfl)
                    exact .inr ⟨wanted_no 10 false 126 rfl (by kernel_rfl) s126, rfl⟩
                  · intro fa fw hx hs hb
                    obtain ⟨_, s126, rfl⟩ := hs 10 126 (by kernel_rfl) (by kernel_rfl)
                    exact .inr ⟨wanted_no 10 false 126 rfl (by kernel_rfl) s126, rfl⟩
                  · intro fa fw hx hs hb
                    obtain ⟨_, s126, rfl⟩ := hs 10 126 (by kernel_rfl) (by kernel_rfl)
                    exact .inr ⟨wanted_no 10 false 126 rfl (by kernel_rfl) s126, rfl⟩
                  · intro fa fw hx hs hb
                    obtain ⟨_, s126, rfl⟩ := hs 10 126 (by kernel_rfl) (by kernel_rfl)
                    exact .inr ⟨wanted_no 10 false 126 rfl (by kernel_rfl) s126, rfl⟩
                  · intro fa fw hx hs hb
                    obtain ⟨_, s117, rfl⟩ := hs 1 117 (by kernel_rfl) (by kernel_rfl)
                    obtain ⟨_, s126, rfl⟩ := hs 10 126 (by kernel_rfl) (by kernel_rfl)
                    obtain ⟨_, s130, rfl⟩ := hs 14 130 (by kernel_rfl) (by kernel_rfl)
                    refine .inl ⟨wanted_yes 1 true 117 rfl (by kernel_rfl) s117, fun K hK => ?_⟩
                    clear hs hb hx
                    go_simp
                    exact hK _ _ rfl (Ext.refl _)
                  · intro fa fw hx hs hb
                    obtain ⟨_, s117, rfl⟩ := hs 1 117 (by kernel_rfl) (by kernel_rfl)
                    obtain ⟨_, s121, rfl⟩ := hs 5 121 (by kernel_rfl) (by kernel_rfl)
                    obtain ⟨_, s131, rfl⟩ := hs 15 131 (by kernel_rfl) (by kernel_rfl)
                    refine .inl ⟨wanted_yes 1 true 117 rfl (by kernel_rfl) s117, fun K hK => ?_⟩
                    clear hs hb hx
                    go_simp
                    exact hK _ _ rfl (Ext.refl _)
                  · intro fa fw hx hs hb
                    obtain ⟨_, s117, rfl⟩ := hs 1 117 (by kernel_rfl) (by kernel_rfl)
                    obtain ⟨_, s132, rfl⟩ := hs 16 132 (by kernel_rfl) (by kernel_rfl)
                    refine .inl ⟨wanted_free rfl, fun K hK => ?_⟩
                    clear hs hb hx
                    go_simp
                    exact hK _ _ rfl (Ext.refl _)
                  · intro fa fw hx hs hb
                    obtain ⟨_, s133, rfl⟩ := hs 17 133 (by kernel_rfl) (by kernel_rfl)
                    refine .inl ⟨wanted_free rfl, fun K hK => ?_⟩
                    clear hs hb hx
                    go_simp
                    exact hK _ _ rfl (Ext.refl _)
                  · intro fa fw hx hs hb
                    obtain ⟨_, s134, rfl⟩ := hs 18 134 (by kernel_rfl) (by kernel_rfl)
                    have s9 : fa.tmps[(9 : Nat)]? = some (.slice (some ⟨bB, oB, none⟩) gn cb) := (hb 9 (by kernel_rfl)).trans (by rfl)
                    refine .inl ⟨wanted_yes 18 true 134 rfl (by kernel_rfl) s134, fun K hK => ?_⟩
                    clear hs hb hx
                    go_simp
                    exact hK _ _ rfl (Ext.refl _)
                  · intro fa fw hx hs hb
                    obtain ⟨_, s134, rfl⟩ := hs 18 134 (by kernel_rfl) (by kernel_rfl)
                    have s11 : fa.tmps[(11 : Nat)]? = some (.int .i64 g) := (hb 11 (by kernel_rfl)).trans (by rfl)
                    refine .inl ⟨wanted_yes 18 true 134 rfl (by kernel_rfl) s134, fun K hK => ?_⟩
                    clear hs hb hx
                    go_simp
                    exact hK _ _ rfl (Ext.refl _)
                  · intro fa fw hx hs hb
                    obtain ⟨_, s134, rfl⟩ := hs 18 134 (by kernel_rfl) (by kernel_rfl)
                    obtain ⟨_, s135, rfl⟩ := hs 19 135 (by kernel_rfl) (by kernel_rfl)
                    obtain ⟨_, s136, rfl⟩ := hs 20 136 (by kernel_rfl) (by kernel_rfl)
                    refine .inl ⟨wanted_yes 18 true 134 rfl (by kernel_rfl) s134, fun K hK => ?_⟩
                    clear hs hb hx
                    go_simp
                    exact hK _ _ rfl (Ext.refl _)
                  · intro fa fw hx hs hb
                    obtain ⟨_, s134, rfl⟩ := hs 18 134 (by kernel_rfl) (by kernel_rfl)
                    obtain ⟨_, s137, rfl⟩ := hs 21 137 (by kernel_rfl) (by kernel_rfl)
                    have c0 := hx.keeps _ _ CXG2.out
                    refine .inl ⟨wanted_yes 18 true 134 rfl (by kernel_rfl) s134, fun K hK => ?_⟩
                    clear hs hb hx
                    go_simp
                    exact hK _ _ rfl (Ext.refl _)
                  · intro fa fw hx hs hb
                    obtain ⟨_, s134, rfl⟩ := hs 18 134 (by kernel_rfl) (by kernel_rfl)
                    obtain ⟨_, s138, rfl⟩ := hs 22 138 (by kernel_rfl) (by kernel_rfl)
                    refine .inl ⟨wanted_yes 18 true 134 rfl (by kernel_rfl) s134, fun K hK => ?_⟩
                    clear hs hb hx
                    go_simp
                    exact hK _ _ rfl (Ext.refl _)
                  · intro fa fw hx hs hb
                    obtain ⟨_, s134, rfl⟩ := hs 18 134 (by kernel_rfl) (by kernel_rfl)
                    obtain ⟨_, s139, rfl⟩ := hs 23 139 (by kernel_rfl) (by kernel_rfl)
                    refine .inl ⟨wanted_yes 18 true 134 rfl (by kernel_rfl) s134, fun K hK => ?_⟩
                    clear hs hb hx
                    go_simp
                    exact hK _ _ rfl (Ext.refl _)
                  · intro fa fw hx hs hb
                    obtain ⟨_, s140, rfl⟩ := hs 24 140 (by kernel_rfl) (by kernel_rfl)
                    exact .inr ⟨wanted_no 24 false 140 rfl (by kernel_rfl) s140, rfl⟩
                  · intro fa fw hx hs hb
                    obtain ⟨_, s140, rfl⟩ := hs 24 140 (by kernel_rfl) (by kernel_rfl)
                    exact .inr ⟨wanted_no 24 false 140 rfl (by kernel_rfl) s140, rfl⟩
                  · intro fa fw hx hs hb
                    obtain ⟨_, s140, rfl⟩ := hs 24 140 (by kernel_rfl) (by kernel_rfl)
                    exact .inr ⟨wanted_no 24 false 140 rfl (by kernel_rfl) s140, rfl⟩
                  · intro fa fw hx hs hb
                    obtain ⟨_, s134, rfl⟩ := hs 18 134 (by kernel_rfl) (by kernel_rfl)
                    obtain ⟨_, s140, rfl⟩ := hs 24 140 (by kernel_rfl) (by kernel_rfl)
                    obtain ⟨_, s143, rfl⟩ := hs 27 143 (by kernel_rfl) (by kernel_rfl)
                    refine .inl ⟨wanted_yes 18 true 134 rfl (by kernel_rfl) s134, fun K hK => ?_⟩
                    clear hs hb hx
                    go_simp
                    exact hK _ _ rfl (Ext.refl _)
                  · intro fa fw hx hs hb
                    obtain ⟨_, s134, rfl⟩ := hs 18 134 (by kernel_rfl) (by kernel_rfl)
                    obtain ⟨_, s144, rfl⟩ := hs 28 144 (by kernel_rfl) (by kernel_rfl)
                    refine .inl ⟨wanted_free rfl, fun K hK => ?_⟩
                    clear hs hb hx
                    go_simp
                    exact hK _ _ rfl (Ext.refl _)
                  · intro fa fw hx hs hb
                    obtain ⟨_, s145, rfl⟩ := hs 29 145 (by kernel_rfl) (by kernel_rfl)
                    refine .inl ⟨wanted_free rfl, fun K hK => ?_⟩
                    clear hs hb hx
                    go_simp
                    exact hK _ _ rfl (Ext.refl _)
                case rest =>
                  intro w7 hxw7
                  rintro _ rfl
                  rintro _ rfl
                  rintro _ rfl
                  rintro _ rfl
                  rintro _ rfl
                  rintro _ rfl
                  rintro _ rfl
                  rintro _ rfl
                  rintro _ rfl
                  rintro _ rfl
                  rintro _ rfl
                  rintro _ rfl
                  rintro _ rfl
                  rintro _ rfl
                  rintro _ rfl
                  rintro _ rfl
                  rintro _ rfl
                  rintro _ rfl
                  rintro _ rfl
                  rintro _ rfl
                  rintro _ rfl
                  rintro _ rfl
                  rintro _ rfl
                  rintro _ rfl
                  rintro _ rfl
                  rintro _ rfl
                  rintro _ rfl
                  rintro _ rfl
                  rintro _ rfl
                  rintro _ rfl
                  rintro _ rfl
                  simp only [putAll, List.take, Act.put, List.setIfInBounds_toArray, List.set_cons_zero, List.set_cons_succ]
                  refine wpAny_done (by kernel_rfl) ?_ _
                  go_wp2
                  go_ret
                  exact ⟨rfl, HX.out.trans (X1.out.trans (X4.out.trans hxw7))⟩
          · rw [hxv] at hcxg CXG
            have HXV := Lib.hid hxv
            obtain ⟨bA, oA, y, rfl, hcy, hy⟩ := SG.out.at_ hlt
            have hya := HAI.out y (List.mem_of_getElem? hy)
            have hon := HAR.out y hxv hya
            obtain ⟨hy0, hy1⟩ := argsI_range HOK.out.args hya
            obtain ⟨yn, rfl⟩ : ∃ yn : Nat, y = yn := ⟨y.toNat, by omega⟩
            have hyl : yn < gn := by have := HGL.out; omega
            obtain ⟨b', o', z, e, hcz, hz⟩ := SX.out.at_ hyl
            cases e
            obtain rfl : z = true := by
              rw [flag_at (by rw [XL.out, HGL.out]; exact hyl), hon] at hz; exact (Option.some.inj hz).symm
            clear hz hy hya hon hxv hy0 hy1
            go_wp2
            go_roundw
            case rel => exact ⟨a + 1, by omega, by go_num, by first | rfl | trivial⟩
            case measure => simp [intOf]; omega
        · cases hxv : onI X (g : Int)
          · rw [hxv] at hcxg CXG
            have HXV := Lib.hid hxv; clear hxv
            go_upto_region 12 with fail
            go_cut [13, 14] (fun s1 s2 wx => ∃ (Yb : Option Addr) (cy : Nat), s1 = .slice Yb gn cy ∧ s2 = .int .i64 0 ∧ Sl wx Yb gn (Y.map Bv) ∧ Ext wr wx)
            case first =>
              clear hcg2 hcxg hlt ha hmm
              have key : ∀ Q, Ext wr Q → Q.cell? ⟨w.heap.size, 0, none⟩ = some (I i) ∧ Q.cell? ⟨w.heap.size, 1, none⟩ = some (.slice (some ⟨bG, oG, none⟩) gn gc) ∧ Q.cell? ⟨w.heap.size, 2, none⟩ = some (.slice RA rn rc) ∧ Q.cell? ⟨w.heap.size, 3, none⟩ = some (.slice OA on oc) := fun Q hQ => HBox.out.keep (X1.out.trans hQ).keeps
              go_region_held3 (fun w' => w'.cell? ⟨w.heap.size, 0, none⟩ = some (I i) ∧ w'.cell? ⟨w.heap.size, 1, none⟩ = some (.slice (some ⟨bG, oG, none⟩) gn gc) ∧ w'.cell? ⟨w.heap.size, 2, none⟩ = some (.slice RA rn rc) ∧ w'.cell? ⟨w.heap.size, 3, none⟩ = some (.slice OA on oc))
                (exact key _ (by first | exact hxB.trans xC | exact hxB | exact hxA | exact hxA.alloc _ | exact (Ext.refl wr).drew | exact ((Ext.refl wr).alloc _).drew | exact (((Ext.refl wr).alloc _).alloc _).drew))
                (first
                  | (refine step_append0 (by rfl) (.tmp 76) (.tmp 77) 24 3 (by rfl) tab_int' Try.underlying24 rfl (by omega) wr (by first | exact ((Ext.refl wr).alloc _).drew | exact (((Ext.refl wr).alloc _).alloc _).drew) wr.heap.size (by rfl) (by first | exact own_empty wr.drew 3 1 wr.heap.size (Nat.le_refl _) | exact (own_empty wr.drew 3 1 wr.heap.size (Nat.le_refl _)).alloc _) A n c (l.map I) (by rfl) ((HL.out.keep X1.out.keeps).keep (by first | exact (((Ext.refl wr).alloc _).drew).keeps | exact ((((Ext.refl wr).alloc _).alloc _).drew).keeps)) (ints_one l) (by have := HNM.out; omega) (by have := HNM.out; omega) ?_; intro v1 wA hown1 hxA hkA)
                  | (refine step_append0 (by rfl) (.tmp 76) (.tmp 77) 24 3 (by rfl) tab_int' Try.underlying24 rfl (by omega) wr (by first | exact ((Ext.refl wr).alloc _).drew | exact (((Ext.refl wr).alloc _).alloc _).drew) (wr.heap.size + 1) (by rfl) (own_emptyAt (wr.alloc _) 3 1 wr.heap.size (wr.heap.size + 1) (by simp) (by simp)) A n c (l.map I) (by rfl) ((HL.out.keep X1.out.keeps).keep (by first | exact (((Ext.refl wr).alloc _).drew).keeps | exact ((((Ext.refl wr).alloc _).alloc _).drew).keeps)) (ints_one l) (by have := HNM.out; omega) (by have := HNM.out; omega) ?_; intro v1 wA hown1 hxA hkA)
                  | (refine step_appendBig (by rfl) (.tmp 78) (.tmp 80) 24 3 (by rfl) tab_int' Try.underlying24 rfl (by omega) wr (hxA.alloc _) v1 n (l.map I) (by rfl) (hown1.alloc _) (some ⟨wA.heap.size, 0, none⟩) 1 1 [I g] (by rfl) (Sl.newAt wA _ [I g] _ rfl) (by simp [Value.oneCell']) (by have := HNM.out; omega) (by have := HNM.out; omega) ?_; intro v2 wB hown2 hxB hgB hfB; obtain ⟨A2, c2, rfl, -, -, hsl2⟩ := own_sl hown2; clear hgB hfB)
                  | (refine step_appendBig (by rfl) (.tmp 78) (.tmp 80) 24 3 (by rfl) tab_int' Try.underlying24 rfl (by omega) wr hxA v1 n (l.map I) (by rfl) hown1 (some ⟨wr.heap.size + 1, 0, none⟩) 1 1 [I g] (by rfl) (Sl.keep (Sl.newAt _ _ [I g] _ (by simp)) hkA) (by simp [Value.oneCell']) (by have := HNM.out; omega) (by have := HNM.out; omega) ?_; intro v2 wB hown2 hxB hgB hfB; obtain ⟨A2, c2, rfl, -, -, hsl2⟩ := own_sl hown2; clear hgB hfB)
                  | (refine step_appendBig (by rfl) (.tmp 78) (.tmp 80) 24 3 (by rfl) tab_int' Try.underlying24 rfl (by omega) wr hxA v1 n (l.map I) (by rfl) hown1 (some ⟨wr.heap.size, 0, none⟩) 1 1 [I g] (by rfl) (((Sl.newAt wr wr.heap.size [I g] _ rfl).keep ((Keeps.alloc _ _).trans (Keeps.drew _))).keep hkA) (by simp [Value.oneCell']) (by have := HNM.out; omega) (by have := HNM.out; omega) ?_; intro v2 wB hown2 hxB hgB hfB; obtain ⟨A2, c2, rfl, -, -, hsl2⟩ := own_sl hown2; clear hgB hfB)
                  | (go_at_call 26; refine (netNeeds_ok i (some ⟨bG, oG, none⟩) gn gc RA rn rc OA on oc N A2 (n + 1) c2 (l ++ [(g : Int)]) wB ((HN.out.keep X1.out.keeps).keep hxB.keeps) (by simpa using hsl2) (by have := HNM.out; omega) HE1.out).mono ?_; rintro e' wC ⟨vY, rfl, hy, xC⟩; rw [HYY.out] at hy))
              all_goals go_wp2_with fail
              all_goals go_meet
              all_goals
                obtain ⟨Yb, cy, e1, -, -, hsY⟩ := own_sl hy
                exact ⟨Yb, cy, e1, rfl, hsY, hxB.trans xC⟩
            case rest =>
              obtain ⟨Yb, cy, rfl, rfl, hsy, xc⟩ := hcut
              clear hcg2 hcxg hlt ha hmm q0 q1 q2 q3
              obtain ⟨bY, oY, yj, rfl, hcyj, hyj⟩ := hsy.at_ hjl
              obtain rfl : yj = onI Y j := by rw [FYJ.out] at hyj; exact (Option.some.inj hyj).symm
              obtain ⟨q0, q1, q2, q3⟩ := HBox.out.keep (X1.out.trans xc).keeps
              have SY := Lib.hid hsy; have CYC := Lib.hid hcyj; have XC := Lib.hid xc
              clear hsy hcyj hyj xc
              go_wp2_with fail
              refine (netNeeds_ok i (some ⟨bG, oG, none⟩) gn gc RA rn rc OA on oc N (some ⟨wc.heap.size, 0, none⟩) 1 1 [(g : Int)] _ ((HN.out.keep (X1.out.trans XC.out).keeps).keep (Keeps.alloc _ _)) (Sl.newAt wc _ [I g] _ rfl) (by omega) HE2.out).mono ?_; rintro e' w4 ⟨vZ, rfl, hz, x4⟩
              rw [HZZ.out] at hz
              obtain ⟨Zb, cz, rfl, -, -, hsz⟩ := own_sl hz
              obtain ⟨bZ, oZ, zj, rfl, hczj, hzj⟩ := hsz.at_ hjl
              obtain rfl : zj = onI Z j := by rw [FZJ.out] at hzj; exact (Option.some.inj hzj).symm
              have x4' := ((Ext.refl wc).alloc _).trans x4
              have CYJ := Lib.hid (x4'.keeps _ _ CYC.out); have SY5 := Lib.hid (SY.out.keep x4'.keeps); have SX5 := Lib.hid ((SX.out.keep XC.out.keeps).keep x4'.keeps)
              have CXG2 := Lib.hid (x4'.keeps _ _ (XC.out.keeps _ _ CXG.out)); have CZJ := Lib.hid hczj; have X4 := Lib.hid (XC.out.trans x4')
              obtain ⟨b', o', xj, e, hcxj, hxj⟩ := SX5.out.at_ hjl
              cases e
              obtain rfl : xj = onI X j := by rw [FXJ.out] at hxj; exact (Option.some.inj hxj).symm
              have CXJ := Lib.hid hcxj
              have GM : Hid (gn ≤ maxLen) := by unfold Hid maxLen; omega
              rw [HMO.out] at CYJ
              clear x4 x4' hz hsz hczj hzj hxj hcxj q0 q1 q2 q3 CYC SY
              go_wp2_with fail
              refine (CII.out w4).mono ?_; rintro e' w4' ⟨rfl, rfl⟩
              generalize onI X (j : Int) = xj at *
              generalize onI Z (j : Int) = zj at *
              cases xj
              · cases zj
                · go_wp2_with fail
                  refine wp_flow3 31 0 [isV (.bool true), isV (.bool true), isV (.slice (some ⟨bY, oY, none⟩) gn cy), isV (.int .i64 j), isV (.pointer (some ⟨bY, oY + j, none⟩)), isV (.bool false), isV (.slice (some ⟨bB, oB, none⟩) gn cb), isV (.int .i64 j), isV (.pointer (some ⟨bB, oB + j, none⟩)), isV (.bool false), isV (.bool false), isV (.slice (some ⟨bZ, oZ, none⟩) gn cz), isV (.int .i64 j), isV (.pointer (some ⟨bZ, oZ + j, none⟩)), isV (.bool false), isV (.bool false), isV (.bool true), isV (.bool true), isV (.bool true), isV (.slice (some ⟨bB, oB, none⟩) gn cb), isV (.int .i64 g), isV (.pointer (some ⟨bB, oB + g, none⟩)), isV (.bool false), isV (.bool true), isV (.bool true), isV undef, isV undef, isV undef, isV (.bool true), isV (.bool true), isV (.bool true)] (by kernel_rfl) rfl rfl (by kernel_rfl) (by kernel_rfl) ⟨isV_mono, isV_mono, isV_mono, isV_mono, isV_mono, isV_mono, isV_mono, isV_mono, isV_mono, isV_mono, isV_mono, isV_mono, isV_mono, isV_mono, isV_mono, isV_mono, isV_mono, isV_mono, isV_mono, isV_mono, isV_mono, isV_mono, isV_mono, isV_mono, isV_mono, isV_mono, isV_mono, isV_mono, isV_mono, isV_mono, isV_mono, trivial⟩ ?each ?rest
                  case each =>
                    refine .cons ?_ (.cons ?_ (.cons ?_ (.cons ?_ (.cons ?_ (.cons ?_ (.cons ?_ (.cons ?_ (.cons ?_ (.cons ?_ (.cons ?_ (.cons ?_ (.cons ?_ (.cons ?_ (.cons ?_ (.cons ?_ (.cons ?_ (.cons ?_ (.cons ?_ (.cons ?_ (.cons ?_ (.cons ?_ (.cons ?_ (.cons ?_ (.cons ?_ (.cons ?_ (.cons ?_ (.cons ?_ (.cons ?_ (.cons ?_ (.cons ?_ (.nil)))))))))))))))))))))))))))))))
                    · intro fa fw hx hs hb
                      refine .inl ⟨wanted_free rfl, fun K hK => ?_⟩
                      clear hs hb
                      go_simp
                      refine (netBegun_any fw).mono ?_
                      rintro e w' ⟨rfl, xq⟩
                      exact hK _ _ rfl xq
                    · intro fa fw hx hs hb
                      obtain ⟨_, s116, rfl⟩ := hs 0 116 (by kernel_rfl) (by kernel_rfl)
                      refine .inl ⟨wanted_free rfl, fun K hK => ?_⟩
                      clear hs hb hx
                      go_simp
                      exact hK _ _ rfl (Ext.refl _)
                    · intro fa fw hx hs hb
                      obtain ⟨_, s117, rfl⟩ := hs 1 117 (by kernel_rfl) (by kernel_rfl)
                      have s13 : fa.tmps[(13 : Nat)]? = some (.slice (some ⟨bY, oY, none⟩) gn cy) := (hb 13 (by kernel_rfl)).trans (by rfl)
                      refine .inl ⟨wanted_yes 1 true 117 rfl (by kernel_rfl) s117, fun K hK => ?_⟩
                      clear hs hb hx
                      go_simp
                      exact hK _ _ rfl (Ext.refl _)
                    · intro fa fw hx hs hb
                      obtain ⟨_, s117, rfl⟩ := hs 1 117 (by kernel_rfl) (by kernel_rfl)
                      have s17 : fa.tmps[(17 : Nat)]? = some (.int .i64 j) := (hb 17 (by kernel_rfl)).trans (by rfl)
                      refine .inl ⟨wanted_yes 1 true 117 rfl (by kernel_rfl) s117, fun K hK => ?_⟩
                      clear hs hb hx
                      go_simp
                      exact hK _ _ rfl (Ext.refl _)
                    · intro fa fw hx hs hb
                      obtain ⟨_, s117, rfl⟩ := hs 1 117 (by kernel_rfl) (by kernel_rfl)
                      obtain ⟨_, s118, rfl⟩ := hs 2 118 (by kernel_rfl) (by kernel_rfl)
                      obtain ⟨_, s119, rfl⟩ := hs 3 119 (by kernel_rfl) (by kernel_rfl)
                      refine .inl ⟨wanted_yes 1 true 117 rfl (by kernel_rfl) s117, fun K hK => ?_⟩
                      clear hs hb hx
                      go_simp
                      exact hK _ _ rfl (Ext.refl _)
                    · intro fa fw hx hs hb
                      obtain ⟨_, s117, rfl⟩ := hs 1 117 (by kernel_rfl) (by kernel_rfl)
                      obtain ⟨_, s120, rfl⟩ := hs 4 120 (by kernel_rfl) (by kernel_rfl)
                      have c0 := hx.keeps _ _ CYJ.out
                      refine .inl ⟨wanted_yes 1 true 117 rfl (by kernel_rfl) s117, fun K hK => ?_⟩
                      clear hs hb hx
                      go_simp
                      exact hK _ _ rfl (Ext.refl _)
                    · intro fa fw hx hs hb
                      obtain ⟨_, s117, rfl⟩ := hs 1 117 (by kernel_rfl) (by kernel_rfl)
                      have s9 : fa.tmps[(9 : Nat)]? = some (.slice (some ⟨bB, oB, none⟩) gn cb) := (hb 9 (by kernel_rfl)).trans (by rfl)
                      refine .inl ⟨wanted_yes 1 true 117 rfl (by kernel_rfl) s117, fun K hK => ?_⟩
                      clear hs hb hx
                      go_simp
                      exact hK _ _ rfl (Ext.refl _)
                    · intro fa fw hx hs hb
                      obtain ⟨_, s117, rfl⟩ := hs 1 117 (by kernel_rfl) (by kernel_rfl)
                      have s17 : fa.tmps[(17 : Nat)]? = some (.int .i64 j) := (hb 17 (by kernel_rfl)).trans (by rfl)
                      refine .inl ⟨wanted_yes 1 true 117 rfl (by kernel_rfl) s117, fun K hK => ?_⟩
                      clear hs hb hx
                      go_simp
                      exact hK _ _ rfl (Ext.refl _)
                    · intro fa fw hx hs hb
                      obtain ⟨_, s117, rfl⟩ := hs 1 117 (by kernel_rfl) (by kernel_rfl)
                      obtain ⟨_, s122, rfl⟩ := hs 6 122 (by kernel_rfl) (by kernel_rfl)
                      obtain ⟨_, s123, rfl⟩ := hs 7 123 (by kernel_rfl) (by kernel_rfl)
                      refine .inl ⟨wanted_yes 1 true 117 rfl (by kernel_rfl) s117, fun K hK => ?_⟩
                      clear hs hb hx
                      go_simp
                      exact hK _ _ rfl (Ext.refl _)
                    · intro fa fw hx hs hb
                      obtain ⟨_, s117, rfl⟩ := hs 1 117 (by kernel_rfl) (by kernel_rfl)
                      obtain ⟨_, s124, rfl⟩ := hs 8 124 (by kernel_rfl) (by kernel_rfl)
                      have c0 := hx.keeps _ _ CXJ.out
                      refine .inl ⟨wanted_yes 1 true 117 rfl (by kernel_rfl) s117, fun K hK => ?_⟩
                      clear hs hb hx
                      go_simp
                      exact hK _ _ rfl (Ext.refl _)
                    · intro fa fw hx hs hb
                      obtain ⟨_, s117, rfl⟩ := hs 1 117 (by kernel_rfl) (by kernel_rfl)
                      obtain ⟨_, s125, rfl⟩ := hs 9 125 (by kernel_rfl) (by kernel_rfl)
                      refine .inl ⟨wanted_yes 1 true 117 rfl (by kernel_rfl) s117, fun K hK => ?_⟩
                      clear hs hb hx
                      go_simp
                      exact hK _ _ rfl (Ext.refl _)
                    · intro fa fw hx hs hb
                      obtain ⟨_, s126, rfl⟩ := hs 10 126 (by kernel_rfl) (by kernel_rfl)
                      have s15 : fa.tmps[(15 : Nat)]? = some (.slice (some ⟨bZ, oZ, none⟩) gn cz) := (hb 15 (by kernel_rfl)).trans (by rfl)
                      refine .inl ⟨wanted_yes 10 false 126 rfl (by kernel_rfl) s126, fun K hK => ?_⟩
                      clear hs hb hx
                      go_simp
                      exact hK _ _ rfl (Ext.refl _)
                    · intro fa fw hx hs hb
                      obtain ⟨_, s126, rfl⟩ := hs 10 126 (by kernel_rfl) (by kernel_rfl)
                      have s17 : fa.tmps[(17 : Nat)]? = some (.int .i64 j) := (hb 17 (by kernel_rfl)).trans (by rfl)
                      refine .inl ⟨wanted_yes 10 false 126 rfl (by kernel_rfl) s126, fun K hK => ?_⟩
                      clear hs hb hx
                      go_simp
                      exact hK _ _ rfl (Ext.refl _)
                    · intro fa fw hx hs hb
                      obtain ⟨_, s126, rfl⟩ := hs 10 126 (by kernel_rfl) (by kernel_rfl)
                      obtain ⟨_, s127, rfl⟩ := hs 11 127 (by kernel_rfl) (by kernel_rfl)
                      obtain ⟨_, s128, rfl⟩ := hs 12 128 (by kernel_rfl) (by kernel_rfl)
                      refine .inl ⟨wanted_yes 10 false 126 rfl (by kernel_rfl) s126, fun K hK => ?_⟩
                      clear hs hb hx
                      go_simp
                      exact hK _ _ rfl (Ext.refl _)
                    · intro fa fw hx hs hb
                      obtain ⟨_, s126, rfl⟩ := hs 10 126 (by kernel_rfl) (by kernel_rfl)
                      obtain ⟨_, s129, rfl⟩ := hs 13 129 (by kernel_rfl) (by kernel_rfl)
                      have c0 := hx.keeps _ _ CZJ.out
                      refine .inl ⟨wanted_yes 10 false 126 rfl (by kernel_rfl) s126, fun K hK => ?_⟩
                      clear hs hb hx
                      go_simp
                      exact hK _ _ rfl (Ext.refl _)
                    · intro fa fw hx hs hb
                      obtain ⟨_, s117, rfl⟩ := hs 1 117 (by kernel_rfl) (by kernel_rfl)
                      obtain ⟨_, s126, rfl⟩ := hs 10 126 (by kernel_rfl) (by kernel_rfl)
                      obtain ⟨_, s130, rfl⟩ := hs 14 130 (by kernel_rfl) (by kernel_rfl)
                      refine .inl ⟨wanted_yes 1 true 117 rfl (by kernel_rfl) s117, fun K hK => ?_⟩
                      clear hs hb hx
                      go_simp
                      exact hK _ _ rfl (Ext.refl _)
                    · intro fa fw hx hs hb
                      obtain ⟨_, s117, rfl⟩ := hs 1 117 (by kernel_rfl) (by kernel_rfl)
                      obtain ⟨_, s121, rfl⟩ := hs 5 121 (by kernel_rfl) (by kernel_rfl)
                      obtain ⟨_, s131, rfl⟩ := hs 15 131 (by kernel_rfl) (by kernel_rfl)
                      refine .inl ⟨wanted_yes 1 true 117 rfl (by kernel_rfl) s117, fun K hK => ?_⟩
                      clear hs hb hx
                      go_simp
                      exact hK _ _ rfl (Ext.refl _)
                    · intro fa fw hx hs hb
                      obtain ⟨_, s117, rfl⟩ := hs 1 117 (by kernel_rfl) (by kernel_rfl)
                      obtain ⟨_, s132, rfl⟩ := hs 16 132 (by kernel_rfl) (by kernel_rfl)
                      refine .inl ⟨wanted_free rfl, fun K hK => ?_⟩
                      clear hs hb hx
                      go_simp
                      exact hK _ _ rfl (Ext.refl _)
                    · intro fa fw hx hs hb
                      obtain ⟨_, s133, rfl⟩ := hs 17 133 (by kernel_rfl) (by kernel_rfl)
                      refine .inl ⟨wanted_free rfl, fun K hK => ?_⟩
                      clear hs hb hx
                      go_simp
                      exact hK _ _ rfl (Ext.refl _)
                    · intro fa fw hx hs hb
                      obtain ⟨_, s134, rfl⟩ := hs 18 134 (by kernel_rfl) (by kernel_rfl)
                      have s9 : fa.tmps[(9 : Nat)]? = some (.slice (some ⟨bB, oB, none⟩) gn cb) := (hb 9 (by kernel_rfl)).trans (by rfl)
                      refine .inl ⟨wanted_yes 18 true 134 rfl (by kernel_rfl) s134, fun K hK => ?_⟩
                      clear hs hb hx
                      go_simp
                      exact hK _ _ rfl (Ext.refl _)
                    · intro fa fw hx hs hb
                      obtain ⟨_, s134, rfl⟩ := hs 18 134 (by kernel_rfl) (by kernel_rfl)
                      have s11 : fa.tmps[(11 : Nat)]? = some (.int .i64 g) := (hb 11 (by kernel_rfl)).trans (by rfl)
                      refine .inl ⟨wanted_yes 18 true 134 rfl (by kernel_rfl) s134, fun K hK => ?_⟩
                      clear hs hb hx
                      go_simp
                      exact hK _ _ rfl (Ext.refl _)
                    · intro fa fw hx hs hb
                      obtain ⟨_, s134, rfl⟩ := hs 18 134 (by kernel_rfl) (by kernel_rfl)
                      obtain ⟨_, s135, rfl⟩ := hs 19 135 (by kernel_rfl) (by kernel_rfl)
                      obtain ⟨_, s136, rfl⟩ := hs 20 136 (by kernel_rfl) (by kernel_rfl)
                      refine .inl ⟨wanted_yes 18 true 134 rfl (by kernel_rfl) s134, fun K hK => ?_⟩
                      clear hs hb hx
                      go_simp
                      exact hK _ _ rfl (Ext.refl _)
                    · intro fa fw hx hs hb
                      obtain ⟨_, s134, rfl⟩ := hs 18 134 (by kernel_rfl) (by kernel_rfl)
                      obtain ⟨_, s137, rfl⟩ := hs 21 137 (by kernel_rfl) (by kernel_rfl)
                      have c0 := hx.keeps _ _ CXG2.out
                      refine .inl ⟨wanted_yes 18 true 134 rfl (by kernel_rfl) s134, fun K hK => ?_⟩
                      clear hs hb hx
                      go_simp
                      exact hK _ _ rfl (Ext.refl _)
                    · intro fa fw hx hs hb
                      obtain ⟨_, s134, rfl⟩ := hs 18 134 (by kernel_rfl) (by kernel_rfl)
                      obtain ⟨_, s138, rfl⟩ := hs 22 138 (by kernel_rfl) (by kernel_rfl)
                      refine .inl ⟨wanted_yes 18 true 134 rfl (by kernel_rfl) s134, fun K hK => ?_⟩
                      clear hs hb hx
                      go_simp
                      exact hK _ _ rfl (Ext.refl _)
                    · intro fa fw hx hs hb
                      obtain ⟨_, s134, rfl⟩ := hs 18 134 (by kernel_rfl) (by kernel_rfl)
                      obtain ⟨_, s139, rfl⟩ := hs 23 139 (by kernel_rfl) (by kernel_rfl)
                      refine .inl ⟨wanted_yes 18 true 134 rfl (by kernel_rfl) s134, fun K hK => ?_⟩
                      clear hs hb hx
                      go_simp
                      exact hK _ _ rfl (Ext.refl _)
                    · intro fa fw hx hs hb
                      obtain ⟨_, s140, rfl⟩ := hs 24 140 (by kernel_rfl) (by kernel_rfl)
                      exact .inr ⟨wanted_no 24 false 140 rfl (by kernel_rfl) s140, rfl⟩
                    · intro fa fw hx hs hb
                      obtain ⟨_, s140, rfl⟩ := hs 24 140 (by kernel_rfl) (by kernel_rfl)
                      exact .inr ⟨wanted_no 24 false 140 rfl (by kernel_rfl) s140, rfl⟩
                    · intro fa fw hx hs hb
                      obtain ⟨_, s140, rfl⟩ := hs 24 140 (by kernel_rfl) (by kernel_rfl)
                      exact .inr ⟨wanted_no 24 false 140 rfl (by kernel_rfl) s140, rfl⟩
                    · intro fa fw hx hs hb
                      obtain ⟨_, s134, rfl⟩ := hs 18 134 (by kernel_rfl) (by kernel_rfl)
                      obtain ⟨_, s140, rfl⟩ := hs 24 140 (by kernel_rfl) (by kernel_rfl)
                      obtain ⟨_, s143, rfl⟩ := hs 27 143 (by kernel_rfl) (by kernel_rfl)
                      refine .inl ⟨wanted_yes 18 true 134 rfl (by kernel_rfl) s134, fun K hK => ?_⟩
                      clear hs hb hx
                      go_simp
                      exact hK _ _ rfl (Ext.refl _)
                    · intro fa fw hx hs hb
                      obtain ⟨_, s134, rfl⟩ := hs 18 134 (by kernel_rfl) (by kernel_rfl)
                      obtain ⟨_, s144, rfl⟩ := hs 28 144 (by kernel_rfl) (by kernel_rfl)
                      refine .inl ⟨wanted_free rfl, fun K hK => ?_⟩
                      clear hs hb hx
                      go_simp
                      exact hK _ _ rfl (Ext.refl _)
                    · intro fa fw hx hs hb
                      obtain ⟨_, s145, rfl⟩ := hs 29 145 (by kernel_rfl) (by kernel_rfl)
                      refine .inl ⟨wanted_free rfl, fun K hK => ?_⟩
                      clear hs hb hx
                      go_simp
                      exact hK _ _ rfl (Ext.refl _)
                  case rest =>
                    intro w7 hxw7
                    rintro _ rfl
                    rintro _ rfl
                    rintro _ rfl
                    rintro _ rfl
                    rintro _ rfl
                    rintro _ rfl
                    rintro _ rfl
                    rintro _ rfl
                    rintro _ rfl
                    rintro _ rfl
                    rintro _ rfl
                    rintro _ rfl
                    rintro _ rfl
                    rintro _ rfl
                    rintro _ rfl
                    rintro _ rfl
                    rintro _ rfl
                    rintro _ rfl
                    rintro _ rfl
                    rintro _ rfl
                    rintro _ rfl
                    rintro _ rfl
                    rintro _ rfl
                    rintro _ rfl
                    rintro _ rfl
                    rintro _ rfl
                    rintro _ rfl
                    rintro _ rfl
                    rintro _ rfl
                    rintro _ rfl
                    rintro _ rfl
                    simp only [putAll, List.take, Act.put, List.setIfInBounds_toArray, List.set_cons_zero, List.set_cons_succ]
                    refine wpAny_done (by kernel_rfl) ?_ _
                    go_wp2
                    go_ret
                    exact ⟨rfl, HX.out.trans (X1.out.trans (X4.out.trans hxw7))⟩
                · go_wp2_with fail
                  refine wp_flow3 31 0 [isV (.bool true), isV (.bool true), isV (.slice (some ⟨bY, oY, none⟩) gn cy), isV (.int .i64 j), isV (.pointer (some ⟨bY, oY + j, none⟩)), isV (.bool true), isV (.slice (some ⟨bB, oB, none⟩) gn cb), isV (.int .i64 j), isV (.pointer (some ⟨bB, oB + j, none⟩)), isV (.bool false), isV (.bool false), isV (.slice (some ⟨bZ, oZ, none⟩) gn cz), isV (.int .i64 j), isV (.pointer (some ⟨bZ, oZ + j, none⟩)), isV (.bool true), isV (.bool true), isV (.bool true), isV (.bool true), isV (.bool true), isV (.slice (some ⟨bB, oB, none⟩) gn cb), isV (.int .i64 g), isV (.pointer (some ⟨bB, oB + g, none⟩)), isV (.bool false), isV (.bool true), isV (.bool true), isV undef, isV undef, isV undef, isV (.bool true), isV (.bool true), isV (.bool true)] (by kernel_rfl) rfl rfl (by kernel_rfl) (by kernel_rfl) ⟨isV_mono, isV_mono, isV_mono, isV_mono, isV_mono, isV_mono, isV_mono, isV_mono, isV_mono, isV_mono, isV_mono, isV_mono, isV_mono, isV_mono, isV_mono, isV_mono, isV_mono, isV_mono, isV_mono, isV_mono, isV_mono, isV_mono, isV_mono, isV_mono, isV_mono, isV_mono, isV_mono, isV_mono, isV_mono, isV_mono, isV_mono, trivial⟩ ?each ?rest
                  case each =>
                    refine .cons ?_ (.cons ?_ (.cons ?_ (.cons ?_ (.cons ?_ (.cons ?_ (.cons ?_ (.cons ?_ (.cons ?_ (.cons ?_ (.cons ?_ (.cons ?_ (.cons ?_ (.cons ?_ (.cons ?_ (.cons ?_ (.cons ?_ (.cons ?_ (.cons ?_ (.cons ?_ (.cons ?_ (.cons ?_ (.cons ?_ (.cons ?_ (.cons ?_ (.cons ?_ (.cons ?_ (.cons ?_ (.cons ?_ (.cons ?_ (.cons ?_ (.nil)))))))))))))))))))))))))))))))
                    · intro fa fw hx hs hb
                      refine .inl ⟨wanted_free rfl, fun K hK => ?_⟩
                      clear hs hb
                      go_simp
                      refine (netBegun_any fw).mono ?_
                      rintro e w' ⟨rfl, xq⟩
                      exact hK _ _ rfl xq
                    · intro fa fw hx hs hb
                      obtain ⟨_, s116, rfl⟩ := hs 0 116 (by kernel_rfl) (by kernel_rfl)
                      refine .inl ⟨wanted_free rfl, fun K hK => ?_⟩
                      clear hs hb hx
                      go_simp
                      exact hK _ _ rfl (Ext.refl _)
                    · intro fa fw hx hs hb
                      obtain ⟨_, s117, rfl⟩ := hs 1 117 (by kernel_rfl) (by kernel_rfl)
                      have s13 : fa.tmps[(13 : Nat)]? = some (.slice (some ⟨bY, oY, none⟩) gn cy) := (hb 13 (by kernel_rfl)).trans (by rfl)
                      refine .inl ⟨wanted_yes 1 true 117 rfl (by kernel_rfl) s117, fun K hK => ?_⟩
                      clear hs hb hx
                      go_simp
                      exact hK _ _ rfl (Ext.refl _)
                    · intro fa fw hx hs hb
                      obtain ⟨_, s117, rfl⟩ := hs 1 117 (by kernel_rfl) (by kernel_rfl)
                      have s17 : fa.tmps[(17 : Nat)]? = some (.int .i64 j) := (hb 17 (by kernel_rfl)).trans (by rfl)
                      refine .inl ⟨wanted_yes 1 true 117 rfl (by kernel_rfl) s117, fun K hK => ?_⟩
                      clear hs hb hx
                      go_simp
                      exact hK _ _ rfl (Ext.refl _)
                    · intro fa fw hx hs hb
                      obtain ⟨_, s117, rfl⟩ := hs 1 117 (by kernel_rfl) (by kernel_rfl)
                      obtain ⟨_, s118, rfl⟩ := hs 2 118 (by kernel_rfl) (by kernel_rfl)
                      obtain ⟨_, s119, rfl⟩ := hs 3 119 (by kernel_rfl) (by kernel_rfl)
                      refine .inl ⟨wanted_yes 1 true 117 rfl (by kernel_rfl) s117, fun K hK => ?_⟩
                      clear hs hb hx
                      go_simp
                      exact hK _ _ rfl (Ext.refl _)
                    · intro fa fw hx hs hb
                      obtain ⟨_, s117, rfl⟩ := hs 1 117 (by kernel_rfl) (by kernel_rfl)
                      obtain ⟨_, s120, rfl⟩ := hs 4 120 (by kernel_rfl) (by kernel_rfl)
                      have c0 := hx.keeps _ _ CYJ.out
                      refine .inl ⟨wanted_yes 1 true 117 rfl (by kernel_rfl) s117, fun K hK => ?_⟩
                      clear hs hb hx
                      go_simp
                      exact hK _ _ rfl (Ext.refl _)
                    · intro fa fw hx hs hb
                      obtain ⟨_, s117, rfl⟩ := hs 1 117 (by kernel_rfl) (by kernel_rfl)
                      have s9 : fa.tmps[(9 : Nat)]? = some (.slice (some ⟨bB, oB, none⟩) gn cb) := (hb 9 (by kernel_rfl)).trans (by rfl)
                      refine .inl ⟨wanted_yes 1 true 117 rfl (by kernel_rfl) s117, fun K hK => ?_⟩
                      clear hs hb hx
                      go_simp
                      exact hK _ _ rfl (Ext.refl _)
                    · intro fa fw hx hs hb
                      obtain ⟨_, s117, rfl⟩ := hs 1 117 (by kernel_rfl) (by kernel_rfl)
                      have s17 : fa.tmps[(17 : Nat)]? = some (.int .i64 j) := (hb 17 (by kernel_rfl)).trans (by rfl)
                      refine .inl ⟨wanted_yes 1 true 117 rfl (by kernel_rfl) s117, fun K hK => ?_⟩
                      clear hs hb hx
                      go_simp
                      exact hK _ _ rfl (Ext.refl _)
                    · intro fa fw hx hs hb
                      obtain ⟨_, s117, rfl⟩ := hs 1 117 (by kernel_rfl) (by kernel_rfl)
                      obtain ⟨_, s122, rfl⟩ := hs 6 122 (by kernel_rfl) (by kernel_rfl)
                      obtain ⟨_, s123, rfl⟩ := hs 7 123 (by kernel_rfl) (by kernel_rfl)
                      refine .inl ⟨wanted_yes 1 true 117 rfl (by kernel_rfl) s117, fun K hK => ?_⟩
                      clear hs hb hx
                      go_simp
                      exact hK _ _ rfl (Ext.refl _)
                    · intro fa fw hx hs hb
                      obtain ⟨_, s117, rfl⟩ := hs 1 117 (by kernel_rfl) (by kernel_rfl)
                      obtain ⟨_, s124, rfl⟩ := hs 8 124 (by kernel_rfl) (by kernel_rfl)
                      have c0 := hx.keeps _ _ CXJ.out
                      refine .inl ⟨wanted_yes 1 true 117 rfl (by kernel_rfl) s117, fun K hK => ?_⟩
                      clear hs hb hx
                      go_simp
                      exact hK _ _ rfl (Ext.refl _)
                    · intro fa fw hx hs hb
                      obtain ⟨_, s117, rfl⟩ := hs 1 117 (by kernel_rfl) (by kernel_rfl)
                      obtain ⟨_, s125, rfl⟩ := hs 9 125 (by kernel_rfl) (by kernel_rfl)
                      refine .inl ⟨wanted_yes 1 true 117 rfl (by kernel_rfl) s117, fun K hK => ?_⟩
                      clear hs hb hx
                      go_simp
                      exact hK _ _ rfl (Ext.refl _)
                    · intro fa fw hx hs hb
                      obtain ⟨_, s126, rfl⟩ := hs 10 126 (by kernel_rfl) (by kernel_rfl)
                      have s15 : fa.tmps[(15 : Nat)]? = some (.slice (some ⟨bZ, oZ, none⟩) gn cz) := (hb 15 (by kernel_rfl)).trans (by rfl)
                      refine .inl ⟨wanted_yes 10 false 126 rfl (by kernel_rfl) s126, fun K hK => ?_⟩
                      clear hs hb hx
                      go_simp
                      exact hK _ _ rfl (Ext.refl _)
                    · intro fa fw hx hs hb
                      obtain ⟨_, s126, rfl⟩ := hs 10 126 (by kernel_rfl) (by kernel_rfl)
                      have s17 : fa.tmps[(17 : Nat)]? = some (.int .i64 j) := (hb 17 (by kernel_rfl)).trans (by rfl)
                      refine .inl ⟨wanted_yes 10 false 126 rfl (by kernel_rfl) s126, fun K hK => ?_⟩
                      clear hs hb hx
                      go_simp
                      exact hK _ _ rfl (Ext.refl _)
                    · intro fa fw hx hs hb
                      obtain ⟨_, s126, rfl⟩ := hs 10 126 (by kernel_rfl) (by kernel_rfl)
                      obtain ⟨_, s127, rfl⟩ := hs 11 127 (by kernel_rfl) (by kernel_rfl)
                      obtain ⟨_, s128, rfl⟩ := hs 12 128 (by kernel_rfl) (by kernel_rfl)
                      refine .inl ⟨wanted_yes 10 false 126 rfl (by kernel_rfl) s126, fun K hK => ?_⟩
                      clear hs hb hx
                      go_simp
                      exact hK _ _ rfl (Ext.refl _)
                    · intro fa fw hx hs hb
                      obtain ⟨_, s126, rfl⟩ := hs 10 126 (by kernel_rfl) (by kernel_rfl)
                      obtain ⟨_, s129, rfl⟩ := hs 13 129 (by kernel_rfl) (by kernel_rfl)
                      have c0 := hx.keeps _ _ CZJ.out
                      refine .inl ⟨wanted_yes 10 false 126 rfl (by kernel_rfl) s126, fun K hK => ?_⟩
                      clear hs hb hx
                      go_simp
                      exact hK _ _ rfl (Ext.refl _)
                    · intro fa fw hx hs hb
                      obtain ⟨_, s117, rfl⟩ := hs 1 117 (by kernel_rfl) (by kernel_rfl)
                      obtain ⟨_, s126, rfl⟩ := hs 10 126 (by kernel_rfl) (by kernel_rfl)
                      obtain ⟨_, s130, rfl⟩ := hs 14 130 (by kernel_rfl) (by kernel_rfl)
                      refine .inl ⟨wanted_yes 1 true 117 rfl (by kernel_rfl) s117, fun K hK => ?_⟩
                      clear hs hb hx
                      go_simp
                      exact hK _ _ rfl (Ext.refl _)
                    · intro fa fw hx hs hb
                      obtain ⟨_, s117, rfl⟩ := hs 1 117 (by kernel_rfl) (by kernel_rfl)
                      obtain ⟨_, s121, rfl⟩ := hs 5 121 (by kernel_rfl) (by kernel_rfl)
                      obtain ⟨_, s131, rfl⟩ := hs 15 131 (by kernel_rfl) (by kernel_rfl)
                      refine .inl ⟨wanted_yes 1 true 117 rfl (by kernel_rfl) s117, fun K hK => ?_⟩
                      clear hs hb hx
                      go_simp
                      exact hK _ _ rfl (Ext.refl _)
                    · intro fa fw hx hs hb
                      obtain ⟨_, s117, rfl⟩ := hs 1 117 (by kernel_rfl) (by kernel_rfl)
                      obtain ⟨_, s132, rfl⟩ := hs 16 132 (by kernel_rfl) (by kernel_rfl)
                      refine .inl ⟨wanted_free rfl, fun K hK => ?_⟩
                      clear hs hb hx
                      go_simp
                      exact hK _ _ rfl (Ext.refl _)
                    · intro fa fw hx hs hb
                      obtain ⟨_, s133, rfl⟩ := hs 17 133 (by kernel_rfl) (by kernel_rfl)
                      refine .inl ⟨wanted_free rfl, fun K hK => ?_⟩
                      clear hs hb hx
                      go_simp
                      exact hK _ _ rfl (Ext.refl _)
                    · intro fa fw hx hs hb
                      obtain ⟨_, s134, rfl⟩ := hs 18 134 (by kernel_rfl) (by kernel_rfl)
                      have s9 : fa.tmps[(9 : Nat)]? = some (.slice (some ⟨bB, oB, none⟩) gn cb) := (hb 9 (by kernel_rfl)).trans (by rfl)
                      refine .inl ⟨wanted_yes 18 true 134 rfl (by kernel_rfl) s134, fun K hK => ?_⟩
                      clear hs hb hx
                      go_simp
                      exact hK _ _ rfl (Ext.refl _)
                    · intro fa fw hx hs hb
                      obtain ⟨_, s134, rfl⟩ := hs 18 134 (by kernel_rfl) (by kernel_rfl)
                      have s11 : fa.tmps[(11 : Nat)]? = some (.int .i64 g) := (hb 11 (by kernel_rfl)).trans (by rfl)
                      refine .inl ⟨wanted_yes 18 true 134 rfl (by kernel_rfl) s134, fun K hK => ?_⟩
                      clear hs hb hx
                      go_simp
                      exact hK _ _ rfl (Ext.refl _)
                    · intro fa fw hx hs hb
                      obtain ⟨_, s134, rfl⟩ := hs 18 134 (by kernel_rfl) (by kernel_rfl)
                      obtain ⟨_, s135, rfl⟩ := hs 19 135 (by kernel_rfl) (by kernel_rfl)
                      obtain ⟨_, s136, rfl⟩ := hs 20 136 (by kernel_rfl) (by kernel_rfl)
                      refine .inl ⟨wanted_yes 18 true 134 rfl (by kernel_rfl) s134, fun K hK => ?_⟩
                      clear hs hb hx
                      go_simp
                      exact hK _ _ rfl (Ext.refl _)
                    · intro fa fw hx hs hb
                      obtain ⟨_, s134, rfl⟩ := hs 18 134 (by kernel_rfl) (by kernel_rfl)
                      obtain ⟨_, s137, rfl⟩ := hs 21 137 (by kernel_rfl) (by kernel_rfl)
                      have c0 := hx.keeps _ _ CXG2.out
                      refine .inl ⟨wanted_yes 18 true 134 rfl (by kernel_rfl) s134, fun K hK => ?_⟩
                      clear hs hb hx
                      go_simp
                      exact hK _ _ rfl (Ext.refl _)
                    · intro fa fw hx hs hb
                      obtain ⟨_, s134, rfl⟩ := hs 18 134 (by kernel_rfl) (by kernel_rfl)
                      obtain ⟨_, s138, rfl⟩ := hs 22 138 (by kernel_rfl) (by kernel_rfl)
                      refine .inl ⟨wanted_yes 18 true 134 rfl (by kernel_rfl) s134, fun K hK => ?_⟩
                      clear hs hb hx
                      go_simp
                      exact hK _ _ rfl (Ext.refl _)
                    · intro fa fw hx hs hb
                      obtain ⟨_, s134, rfl⟩ := hs 18 134 (by kernel_rfl) (by kernel_rfl)
                      obtain ⟨_, s139, rfl⟩ := hs 23 139 (by kernel_rfl) (by kernel_rfl)
                      refine .inl ⟨wanted_yes 18 true 134 rfl (by kernel_rfl) s134, fun K hK => ?_⟩
                      clear hs hb hx
                      go_simp
                      exact hK _ _ rfl (Ext.refl _)
                    · intro fa fw hx hs hb
                      obtain ⟨_, s140, rfl⟩ := hs 24 140 (by kernel_rfl) (by kernel_rfl)
                      exact .inr ⟨wanted_no 24 false 140 rfl (by kernel_rfl) s140, rfl⟩
                    · intro fa fw hx hs hb
                      obtain ⟨_, s140, rfl⟩ := hs 24 140 (by kernel_rfl) (by kernel_rfl)
                      exact .inr ⟨wanted_no 24 false 140 rfl (by kernel_rfl) s140, rfl⟩
                    · intro fa fw hx hs hb
                      obtain ⟨_, s140, rfl⟩ := hs 24 140 (by kernel_rfl) (by kernel_rfl)
                      exact .inr ⟨wanted_no 24 false 140 rfl (by kernel_rfl) s140, rfl⟩
                    · intro fa fw hx hs hb
                      obtain ⟨_, s134, rfl⟩ := hs 18 134 (by kernel_rfl) (by kernel_rfl)
                      obtain ⟨_, s140, rfl⟩ := hs 24 140 (by kernel_rfl) (by kernel_rfl)
                      obtain ⟨_, s143, rfl⟩ := hs 27 143 (by kernel_rfl) (by kernel_rfl)
                      refine .inl ⟨wanted_yes 18 true 134 rfl (by kernel_rfl) s134, fun K hK => ?_⟩
                      clear hs hb hx
                      go_simp
                      exact hK _ _ rfl (Ext.refl _)
                    · intro fa fw hx hs hb
                      obtain ⟨_, s134, rfl⟩ := hs 18 134 (by kernel_rfl) (by kernel_rfl)
                      obtain ⟨_, s144, rfl⟩ := hs 28 144 (by kernel_rfl) (by kernel_rfl)
                      refine .inl ⟨wanted_free rfl, fun K hK => ?_⟩
                      clear hs hb hx
                      go_simp
                      exact hK _ _ rfl (Ext.refl _)
                    · intro fa fw hx hs hb
                      obtain ⟨_, s145, rfl⟩ := hs 29 145 (by kernel_rfl) (by kernel_rfl)
                      refine .inl ⟨wanted_free rfl, fun K hK => ?_⟩
                      clear hs hb hx
                      go_simp
                      exact hK _ _ rfl (Ext.refl _)
                  case rest =>
                    intro w7 hxw7
                    rintro _ rfl
                    rintro _ rfl
                    rintro _ rfl
                    rintro _ rfl
                    rintro _ rfl
                    rintro _ rfl
                    rintro _ rfl
                    rintro _ rfl
                    rintro _ rfl
                    rintro _ rfl
                    rintro _ rfl
                    rintro _ rfl
                    rintro _ rfl
                    rintro _ rfl
                    rintro _ rfl
                    rintro _ rfl
                    rintro _ rfl
                    rintro _ rfl
                    rintro _ rfl
                    rintro _ rfl
                    rintro _ rfl
                    rintro _ rfl
                    rintro _ rfl
                    rintro _ rfl
                    rintro _ rfl
                    rintro _ rfl
                    rintro _ rfl
                    rintro _ rfl
                    rintro _ rfl
                    rintro _ rfl
                    rintro _ rfl
                    simp only [putAll, List.take, Act.put, List.setIfInBounds_toArray, List.set_cons_zero, List.set_cons_succ]
                    refine wpAny_done (by kernel_rfl) ?_ _
                    go_wp2
                    go_ret
                    exact ⟨rfl, HX.out.trans (X1.out.trans (X4.out.trans hxw7))⟩
              · go_wp2_with fail
                refine wp_flow3 31 0 [isV (.bool true), isV (.bool true), isV (.slice (some ⟨bY, oY, none⟩) gn cy), isV (.int .i64 j), isV (.pointer (some ⟨bY, oY + j, none⟩)), isV (.bool true), isV (.slice (some ⟨bB, oB, none⟩) gn cb), isV (.int .i64 j), isV (.pointer (some ⟨bB, oB + j, none⟩)), isV (.bool true), isV (.bool true), isV undef, isV undef, isV undef, isV undef, isV (.bool true), isV (.bool true), isV (.bool true), isV (.bool true), isV (.slice (some ⟨bB, oB, none⟩) gn cb), isV (.int .i64 g), isV (.pointer (some ⟨bB, oB + g, none⟩)), isV (.bool false), isV (.bool true), isV (.bool true), isV undef, isV undef, isV undef, isV (.bool true), isV (.bool true), isV (.bool true)] (by kernel_rfl) rfl rfl (by kernel_rfl) (by kernel_rfl) ⟨isV_mono, isV_mono, isV_mono, isV_mono, isV_mono, isV_mono, isV_mono, isV_mono, isV_mono, isV_mono, isV_mono, isV_mono, isV_mono, isV_mono, isV_mono, isV_mono, isV_mono, isV_mono, isV_mono, isV_mono, isV_mono, isV_mono, isV_mono, isV_mono, isV_mono, isV_mono, isV_mono, isV_mono, isV_mono, isV_mono, isV_mono, trivial⟩ ?each ?rest
                case each =>
                  refine .cons ?_ (.cons ?_ (.cons ?_ (.cons ?_ (.cons ?_ (.cons ?_ (.cons ?_ (.cons ?_ (.cons ?_ (.cons ?_ (.cons ?_ (.cons ?_ (.cons ?_ (.cons ?_ (.cons ?_ (.cons ?_ (.cons ?_ (.cons ?_ (.cons ?_ (.cons ?_ (.cons ?_ (.cons ?_ (.cons ?_ (.cons ?_ (.cons ?_ (.cons ?_ (.cons ?_ (.cons ?_ (.cons ?_ (.cons ?_ (.cons ?_ (.nil)))))))))))))))))))))))))))))))
                  · intro fa fw hx hs hb
                    refine .inl ⟨wanted_free rfl, fun K hK => ?_⟩
                    clear hs hb
                    go_simp
                    refine (netBegun_any fw).mono ?_
                    rintro e w' ⟨rfl, xq⟩
                    exact hK _ _ rfl xq
                  · intro fa fw hx hs hb
                    obtain ⟨_, s116, rfl⟩ := hs 0 116 (by kernel_rfl) (by kernel_rfl)
                    refine .inl ⟨wanted_free rfl, fun K hK => ?_⟩
                    clear hs hb hx
                    go_simp
                    exact hK _ _ rfl (Ext.refl _)
                  · intro fa fw hx hs hb
                    obtain ⟨_, s117, rfl⟩ := hs 1 117 (by kernel_rfl) (by kernel_rfl)
                    have s13 : fa.tmps[(13 : Nat)]? = some (.slice (some ⟨bY, oY, none⟩) gn cy) := (hb 13 (by kernel_rfl)).trans (by rfl)
                    refine .inl ⟨wanted_yes 1 true 117 rfl (by kernel_rfl) s117, fun K hK => ?_⟩
                    clear hs hb hx
                    go_simp
                    exact hK _ _ rfl (Ext.refl _)
                  · intro fa fw hx hs hb
                    obtain ⟨_, s117, rfl⟩ := hs 1 117 (by kernel_rfl) (by kernel_rfl)
                    have s17 : fa.tmps[(17 : Nat)]? = some (.int .i64 j) := (hb 17 (by kernel_rfl)).trans (by rfl)
                    refine .inl ⟨wanted_yes 1 true 117 rfl (by kernel_rfl) s117, fun K hK => ?_⟩
                    clear hs hb hx
                    go_simp
                    exact hK _ _ rfl (Ext.refl _)
                  · intro fa fw hx hs hb
                    obtain ⟨_, s117, rfl⟩ := hs 1 117 (by kernel_rfl) (by kernel_rfl)
                    obtain ⟨_, s118, rfl⟩ := hs 2 118 (by kernel_rfl) (by kernel_rfl)
                    obtain ⟨_, s119, rfl⟩ := hs 3 119 (by kernel_rfl) (by kernel_rfl)
                    refine .inl ⟨wanted_yes 1 true 117 rfl (by kernel_rfl) s117, fun K hK => ?_⟩
                    clear hs hb hx
                    go_simp
                    exact hK _ _ rfl (Ext.refl _)
                  · intro fa fw hx hs hb
                    obtain ⟨_, s117, rfl⟩ := hs 1 117 (by kernel_rfl) (by kernel_rfl)
                    obtain ⟨_, s120, rfl⟩ := hs 4 120 (by kernel_rfl) (by kernel_rfl)
                    have c0 := hx.keeps _ _ CYJ.out
                    refine .inl ⟨wanted_yes 1 true 117 rfl (by kernel_rfl) s117, fun K hK => ?_⟩
                    clear hs hb hx
                    go_simp
                    exact hK _ _ rfl (Ext.refl _)
                  · intro fa fw hx hs hb
                    obtain ⟨_, s117, rfl⟩ := hs 1 117 (by kernel_rfl) (by kernel_rfl)
                    have s9 : fa.tmps[(9 : Nat)]? = some (.slice (some ⟨bB, oB, none⟩) gn cb) := (hb 9 (by kernel_rfl)).trans (by rfl)
                    refine .inl ⟨wanted_yes 1 true 117 rfl (by kernel_rfl) s117, fun K hK => ?_⟩
                    clear hs hb hx
                    go_simp
                    exact hK _ _ rfl (Ext.refl _)
                  · intro fa fw hx hs hb
                    obtain ⟨_, s117, rfl⟩ := hs 1 117 (by kernel_rfl) (by kernel_rfl)
                    have s17 : fa.tmps[(17 : Nat)]? = some (.int .i64 j) := (hb 17 (by kernel_rfl)).trans (by rfl)
                    refine .inl ⟨wanted_yes 1 true 117 rfl (by kernel_rfl) s117, fun K hK => ?_⟩
                    clear hs hb hx
                    go_simp
                    exact hK _ _ rfl (Ext.refl _)
                  · intro fa fw hx hs hb
                    obtain ⟨_, s117, rfl⟩ := hs 1 117 (by kernel_rfl) (by kernel_rfl)
                    obtain ⟨_, s122, rfl⟩ := hs 6 122 (by kernel_rfl) (by kernel_rfl)
                    obtain ⟨_, s123, rfl⟩ := hs 7 123 (by kernel_rfl) (by kernel_rfl)
                    refine .inl ⟨wanted_yes 1 true 117 rfl (by kernel_rfl) s117, fun K hK => ?_⟩
                    clear hs hb hx
                    go_simp
                    exact hK _ _ rfl (Ext.refl _)
                  · intro fa fw hx hs hb
                    obtain ⟨_, s117, rfl⟩ := hs 1 117 (by kernel_rfl) (by kernel_rfl)
                    obtain ⟨_, s124, rfl⟩ := hs 8 124 (by kernel_rfl) (by kernel_rfl)
                    have c0 := hx.keeps _ _ CXJ.out
                    refine .inl ⟨wanted_yes 1 true 117 rfl (by kernel_rfl) s117, fun K hK => ?_⟩
                    clear hs hb hx
                    go_simp
                    exact hK _ _ rfl (Ext.refl _)
                  · intro fa fw hx hs hb
                    obtain ⟨_, s117, rfl⟩ := hs 1 117 (by kernel_rfl) (by kernel_rfl)
                    obtain ⟨_, s125, rfl⟩ := hs 9 125 (by kernel_rfl) (by kernel_rfl)
                    refine .inl ⟨wanted_yes 1 true 117 rfl (by kernel_rfl) s117, fun K hK => ?_⟩
                    clear hs hb hx
                    go_simp
                    exact hK _ _ rfl (Ext.refl _)
                  · intro fa fw hx hs hb
                    obtain ⟨_, s126, rfl⟩ := hs 10 126 (by kernel_rfl) (by kernel_rfl)
                    exact .inr ⟨wanted_no 10 false 126 rfl (by kernel_rfl) s126, rfl⟩
                  · intro fa fw hx hs hb
                    obtain ⟨_, s126, rfl⟩ := hs 10 126 (by kernel_rfl) (by kernel_rfl)
                    exact .inr ⟨wanted_no 10 false 126 rfl (by kernel_rfl) s126, rfl⟩
                  · intro fa fw hx hs hb
                    obtain ⟨_, s126, rfl⟩ := hs 10 126 (by kernel_rfl) (by kernel_rfl)
                    exact .inr ⟨wanted_no 10 false 126 rfl (by kernel_rfl) s126, rfl⟩
                  · intro fa fw hx hs hb
                    obtain ⟨_, s126, rfl⟩ := hs 10 126 (by kernel_rfl) (by kernel_rfl)
                    exact .inr ⟨wanted_no 10 false 126 rfl (by kernel_rfl) s126, rfl⟩
                  · intro fa fw hx hs hb
                    obtain ⟨_, s117, rfl⟩ := hs 1 117 (by kernel_rfl) (by kernel_rfl)
                    obtain ⟨_, s126, rfl⟩ := hs 10 126 (by kernel_rfl) (by kernel_rfl)
                    obtain ⟨_, s130, rfl⟩ := hs 14 130 (by kernel_rfl) (by kernel_rfl)
                    refine .inl ⟨wanted_yes 1 true 117 rfl (by kernel_rfl) s117, fun K hK => ?_⟩
                    clear hs hb hx
                    go_simp
                    exact hK _ _ rfl (Ext.refl _)
                  · intro fa fw hx hs hb
                    obtain ⟨_, s117, rfl⟩ := hs 1 117 (by kernel_rfl) (by kernel_rfl)
                    obtain ⟨_, s121, rfl⟩ := hs 5 121 (by kernel_rfl) (by kernel_rfl)
                    obtain ⟨_, s131, rfl⟩ := hs 15 131 (by kernel_rfl) (by kernel_rfl)
                    refine .inl ⟨wanted_yes 1 true 117 rfl (by kernel_rfl) s117, fun K hK => ?_⟩
                    clear hs hb hx
                    go_simp
                    exact hK _ _ rfl (Ext.refl _)
                  · intro fa fw hx hs hb
                    obtain ⟨_, s117, rfl⟩ := hs 1 117 (by kernel_rfl) (by kernel_rfl)
                    obtain ⟨_, s132, rfl⟩ := hs 16 132 (by kernel_rfl) (by kernel_rfl)
                    refine .inl ⟨wanted_free rfl, fun K hK => ?_⟩
                    clear hs hb hx
                    go_simp
                    exact hK _ _ rfl (Ext.refl _)
                  · intro fa fw hx hs hb
                    obtain ⟨_, s133, rfl⟩ := hs 17 133 (by kernel_rfl) (by kernel_rfl)
                    refine .inl ⟨wanted_free rfl, fun K hK => ?_⟩
                    clear hs hb hx
                    go_simp
                    exact hK _ _ rfl (Ext.refl _)
                  · intro fa fw hx hs hb
                    obtain ⟨_, s134, rfl⟩ := hs 18 134 (by kernel_rfl) (by kernel_rfl)
                    have s9 : fa.tmps[(9 : Nat)]? = some (.slice (some ⟨bB, oB, none⟩) gn cb) := (hb 9 (by kernel_rfl)).trans (by rfl)
                    refine .inl ⟨wanted_yes 18 true 134 rfl (by kernel_rfl) s134, fun K hK => ?_⟩
                    clear hs hb hx
                    go_simp
                    exact hK _ _ rfl (Ext.refl _)
                  · intro fa fw hx hs hb
                    obtain ⟨_, s134, rfl⟩ := hs 18 134 (by kernel_rfl) (by kernel_rfl)
                    have s11 : fa.tmps[(11 : Nat)]? = some (.int .i64 g) := (hb 11 (by kernel_rfl)).trans (by rfl)
                    refine .inl ⟨wanted_yes 18 true 134 rfl (by kernel_rfl) s134, fun K hK => ?_⟩
                    clear hs hb hx
                    go_simp
                    exact hK _ _ rfl (Ext.refl _)
                  · intro fa fw hx hs hb
                    obtain ⟨_, s134, rfl⟩ := hs 18 134 (by kernel_rfl) (by kernel_rfl)
                    obtain ⟨_, s135, rfl⟩ := hs 19 135 (by kernel_rfl) (by kernel_rfl)
                    obtain ⟨_, s136, rfl⟩ := hs 20 136 (by kernel_rfl) (by kernel_rfl)
                    refine .inl ⟨wanted_yes 18 true 134 rfl (by kernel_rfl) s134, fun K hK => ?_⟩
                    clear hs hb hx
                    go_simp
                    exact hK _ _ rfl (Ext.refl _)
                  · intro fa fw hx hs hb
                    obtain ⟨_, s134, rfl⟩ := hs 18 134 (by kernel_rfl) (by kernel_rfl)
                    obtain ⟨_, s137, rfl⟩ := hs 21 137 (by kernel_rfl) (by kernel_rfl)
                    have c0 := hx.keeps _ _ CXG2.out
                    refine .inl ⟨wanted_yes 18 true 134 rfl (by kernel_rfl) s134, fun K hK => ?_⟩
                    clear hs hb hx
                    go_simp
                    exact hK _ _ rfl (Ext.refl _)
                  · intro fa fw hx hs hb
                    obtain ⟨_, s134, rfl⟩ := hs 18 134 (by kernel_rfl) (by kernel_rfl)
                    obtain ⟨_, s138, rfl⟩ := hs 22 138 (by kernel_rfl) (by kernel_rfl)
                    refine .inl ⟨wanted_yes 18 true 134 rfl (by kernel_rfl) s134, fun K hK => ?_⟩
                    clear hs hb hx
                    go_simp
                    exact hK _ _ rfl (Ext.refl _)
                  · intro fa fw hx hs hb
                    obtain ⟨_, s134, rfl⟩ := hs 18 134 (by kernel_rfl) (by kernel_rfl)
                    obtain ⟨_, s139, rfl⟩ := hs 23 139 (by kernel_rfl) (by kernel_rfl)
                    refine .inl ⟨wanted_yes 18 true 134 rfl (by kernel_rfl) s134, fun K hK => ?_⟩
                    clear hs hb hx
                    go_simp
                    exact hK _ _ rfl (Ext.refl _)
                  · intro fa fw hx hs hb
                    obtain ⟨_, s140, rfl⟩ := hs 24 140 (by kernel_rfl) (by kernel_rfl)
                    exact .inr ⟨wanted_no 24 false 140 rfl (by kernel_rfl) s140, rfl⟩
                  · intro fa fw hx hs hb
                    obtain ⟨_, s140, rfl⟩ := hs 24 140 (by kernel_rfl) (by kernel_rfl)
                    exact .inr ⟨wanted_no 24 false 140 rfl (by kernel_rfl) s140, rfl⟩
                  · intro fa fw hx hs hb
                    obtain ⟨_, s140, rfl⟩ := hs 24 140 (by kernel_rfl) (by kernel_rfl)
                    exact .inr ⟨wanted_no 24 false 140 rfl (by kernel_rfl) s140, rfl⟩
                  · intro fa fw hx hs hb
                    obtain ⟨_, s134, rfl⟩ := hs 18 134 (by kernel_rfl) (by kernel_rfl)
                    obtain ⟨_, s140, rfl⟩ := hs 24 140 (by kernel_rfl) (by kernel_rfl)
                    obtain ⟨_, s143, rfl⟩ := hs 27 143 (by kernel_rfl) (by kernel_rfl)
                    refine .inl ⟨wanted_yes 18 true 134 rfl (by kernel_rfl) s134, fun K hK => ?_⟩
                    clear hs hb hx
                    go_simp
                    exact hK _ _ rfl (Ext.refl _)
                  · intro fa fw hx hs hb
                    obtain ⟨_, s134, rfl⟩ := hs 18 134 (by kernel_rfl) (by kernel_rfl)
                    obtain ⟨_, s144, rfl⟩ := hs 28 144 (by kernel_rfl) (by kernel_rfl)
                    refine .inl ⟨wanted_free rfl, fun K hK => ?_⟩
                    clear hs hb hx
                    go_simp
                    exact hK _ _ rfl (Ext.refl _)
                  · intro fa fw hx hs hb
                    obtain ⟨_, s145, rfl⟩ := hs 29 145 (by kernel_rfl) (by kernel_rfl)
                    refine .inl ⟨wanted_free rfl, fun K hK => ?_⟩
                    clear hs hb hx
                    go_simp
                    exact hK _ _ rfl (Ext.refl _)
                case rest =>
                  intro w7 hxw7
                  rintro _ rfl
                  rintro _ rfl
                  rintro _ rfl
                  rintro _ rfl
                  rintro _ rfl
                  rintro _ rfl
                  rintro _ rfl
                  rintro _ rfl
                  rintro _ rfl
                  rintro _ rfl
                  rintro _ rfl
                  rintro _ rfl
                  rintro _ rfl
                  rintro _ rfl
                  rintro _ rfl
                  rintro _ rfl
                  rintro _ rfl
                  rintro _ rfl
                  rintro _ rfl
                  rintro _ rfl
                  rintro _ rfl
                  rintro _ rfl
                  rintro _ rfl
                  rintro _ rfl
                  rintro _ rfl
                  rintro _ rfl
                  rintro _ rfl
                  rintro _ rfl
                  rintro _ rfl
                  rintro _ rfl
                  rintro _ rfl
                  simp only [putAll, List.take, Act.put, List.setIfInBounds_toArray, List.set_cons_zero, List.set_cons_succ]
                  refine wpAny_done (by kernel_rfl) ?_ _
                  go_wp2
                  go_ret
                  exact ⟨rfl, HX.out.trans (X1.out.trans (X4.out.trans hxw7))⟩
          · rw [hxv] at hcxg CXG
            have HXV := Lib.hid hxv; clear hxv
            go_upto_region 12 with fail
            go_cut [13, 14] (fun s1 s2 wx => ∃ (Yb : Option Addr) (cy : Nat), s1 = .slice Yb gn cy ∧ s2 = .int .i64 0 ∧ Sl wx Yb gn (Y.map Bv) ∧ Ext wr wx)
            case first =>
              clear hcg2 hcxg hlt ha hmm
              have key : ∀ Q, Ext wr Q → Q.cell? ⟨w.heap.size, 0, none⟩ = some (I i) ∧ Q.cell? ⟨w.heap.size, 1, none⟩ = some (.slice (some ⟨bG, oG, none⟩) gn gc) ∧ Q.cell? ⟨w.heap.size, 2, none⟩ = some (.slice RA rn rc) ∧ Q.cell? ⟨w.heap.size, 3, none⟩ = some (.slice OA on oc) := fun Q hQ => HBox.out.keep (X1.out.trans hQ).keeps
              go_region_held3 (fun w' => w'.cell? ⟨w.heap.size, 0, none⟩ = some (I i) ∧ w'.cell? ⟨w.heap.size, 1, none⟩ = some (.slice (some ⟨bG, oG, none⟩) gn gc) ∧ w'.cell? ⟨w.heap.size, 2, none⟩ = some (.slice RA rn rc) ∧ w'.cell? ⟨w.heap.size, 3, none⟩ = some (.slice OA on oc))
                (exact key _ (by first | exact hxB.trans xC | exact hxB | exact hxA | exact hxA.alloc _ | exact (Ext.refl wr).drew | exact ((Ext.refl wr).alloc _).drew | exact (((Ext.refl wr).alloc _).alloc _).drew))
                (first
                  | (refine step_append0 (by rfl) (.tmp 76) (.tmp 77) 24 3 (by rfl) tab_int' Try.underlying24 rfl (by omega) wr (by first | exact ((Ext.refl wr).alloc _).drew | exact (((Ext.refl wr).alloc _).alloc _).drew) wr.heap.size (by rfl) (by first | exact own_empty wr.drew 3 1 wr.heap.size (Nat.le_refl _) | exact (own_empty wr.drew 3 1 wr.heap.size (Nat.le_refl _)).alloc _) A n c (l.map I) (by rfl) ((HL.out.keep X1.out.keeps).keep (by first | exact (((Ext.refl wr).alloc _).drew).keeps | exact ((((Ext.refl wr).alloc _).alloc _).drew).keeps)) (ints_one l) (by have := HNM.out; omega) (by have := HNM.out; omega) ?_; intro v1 wA hown1 hxA hkA)
                  | (refine step_append0 (by rfl) (.tmp 76) (.tmp 77) 24 3 (by rfl) tab_int' Try.underlying24 rfl (by omega) wr (by first | exact ((Ext.refl wr).alloc _).drew | exact (((Ext.refl wr).alloc _).alloc _).drew) (wr.heap.size + 1) (by rfl) (own_emptyAt (wr.alloc _) 3 1 wr.heap.size (wr.heap.size + 1) (by simp) (by simp)) A n c (l.map I) (by rfl) ((HL.out.keep X1.out.keeps).keep (by first | exact (((Ext.refl wr).alloc _).drew).keeps | exact ((((Ext.refl wr).alloc _).alloc _).drew).keeps)) (ints_one l) (by have := HNM.out; omega) (by have := HNM.out; omega) ?_; intro v1 wA hown1 hxA hkA)
                  | (refine step_appendBig (by rfl) (.tmp 78) (.tmp 80) 24 3 (by rfl) tab_int' Try.underlying24 rfl (by omega) wr (hxA.alloc _) v1 n (l.map I) (by rfl) (hown1.alloc _) (some ⟨wA.heap.size, 0, none⟩) 1 1 [I g] (by rfl) (Sl.newAt wA _ [I g] _ rfl) (by simp [Value.oneCell']) (by have := HNM.out; omega) (by have := HNM.out; omega) ?_; intro v2 wB hown2 hxB hgB hfB; obtain ⟨A2, c2, rfl, -, -, hsl2⟩ := own_sl hown2; clear hgB hfB)
                  | (refine step_appendBig (by rfl) (.tmp 78) (.tmp 80) 24 3 (by rfl) tab_int' Try.underlying24 rfl (by omega) wr hxA v1 n (l.map I) (by rfl) hown1 (some ⟨wr.heap.size + 1, 0, none⟩) 1 1 [I g] (by rfl) (Sl.keep (Sl.newAt _ _ [I g] _ (by simp)) hkA) (by simp [Value.oneCell']) (by have := HNM.out; omega) (by have := HNM.out; omega) ?_; intro v2 wB hown2 hxB hgB hfB; obtain ⟨A2, c2, rfl, -, -, hsl2⟩ := own_sl hown2; clear hgB hfB)
                  | (refine step_appendBig (by rfl) (.tmp 78) (.tmp 80) 24 3 (by rfl) tab_int' Try.underlying24 rfl (by omega) wr hxA v1 n (l.map I) (by rfl) hown1 (some ⟨wr.heap.size, 0, none⟩) 1 1 [I g] (by rfl) (((Sl.newAt wr wr.heap.size [I g] _ rfl).keep ((Keeps.alloc _ _).trans (Keeps.drew _))).keep hkA) (by simp [Value.oneCell']) (by have := HNM.out; omega) (by have := HNM.out; omega) ?_; intro v2 wB hown2 hxB hgB hfB; obtain ⟨A2, c2, rfl, -, -, hsl2⟩ := own_sl hown2; clear hgB hfB)
                  | (go_at_call 26; refine (netNeeds_ok i (some ⟨bG, oG, none⟩) gn gc RA rn rc OA on oc N A2 (n + 1) c2 (l ++ [(g : Int)]) wB ((HN.out.keep X1.out.keeps).keep hxB.keeps) (by simpa using hsl2) (by have := HNM.out; omega) HE1.out).mono ?_; rintro e' wC ⟨vY, rfl, hy, xC⟩; rw [HYY.out] at hy))
              all_goals go_wp2_with fail
              all_goals go_meet
              all_goals
                obtain ⟨Yb, cy, e1, -, -, hsY⟩ := own_sl hy
                exact ⟨Yb, cy, e1, rfl, hsY, hxB.trans xC⟩
            case rest =>
              obtain ⟨Yb, cy, rfl, rfl, hsy, xc⟩ := hcut
              clear hcg2 hcxg hlt ha hmm q0 q1 q2 q3
              obtain ⟨bY, oY, yj, rfl, hcyj, hyj⟩ := hsy.at_ hjl
              obtain rfl : yj = onI Y j := by rw [FYJ.out] at hyj; exact (Option.some.inj hyj).symm
              obtain ⟨q0, q1, q2, q3⟩ := HBox.out.keep (X1.out.trans xc).keeps
              have SY := Lib.hid hsy; have CYC := Lib.hid hcyj; have XC := Lib.hid xc
              clear hsy hcyj hyj xc
              go_wp2_with fail
              refine (netNeeds_ok i (some ⟨bG, oG, none⟩) gn gc RA rn rc OA on oc N (some ⟨wc.heap.size, 0, none⟩) 1 1 [(g : Int)] _ ((HN.out.keep (X1.out.trans XC.out).keeps).keep (Keeps.alloc _ _)) (Sl.newAt wc _ [I g] _ rfl) (by omega) HE2.out).mono ?_; rintro e' w4 ⟨vZ, rfl, hz, x4⟩
              rw [HZZ.out] at hz
              obtain ⟨Zb, cz, rfl, -, -, hsz⟩ := own_sl hz
              obtain ⟨bZ, oZ, zj, rfl, hczj, hzj⟩ := hsz.at_ hjl
              obtain rfl : zj = onI Z j := by rw [FZJ.out] at hzj; exact (Option.some.inj hzj).symm
              have x4' := ((Ext.refl wc).alloc _).trans x4
              have CYJ := Lib.hid (x4'.keeps _ _ CYC.out); have SY5 := Lib.hid (SY.out.keep x4'.keeps); have SX5 := Lib.hid ((SX.out.keep XC.out.keeps).keep x4'.keeps)
              have CXG2 := Lib.hid (x4'.keeps _ _ (XC.out.keeps _ _ CXG.out)); have CZJ := Lib.hid hczj; have X4 := Lib.hid (XC.out.trans x4')
              obtain ⟨b', o', xj, e, hcxj, hxj⟩ := SX5.out.at_ hjl
              cases e
              obtain rfl : xj = onI X j := by rw [FXJ.out] at hxj; exact (Option.some.inj hxj).symm
              have CXJ := Lib.hid hcxj
              have GM : Hid (gn ≤ maxLen) := by unfold Hid maxLen; omega
              rw [HMO.out] at CYJ
              clear x4 x4' hz hsz hczj hzj hxj hcxj q0 q1 q2 q3 CYC SY
              go_wp2_with fail
              refine (CII.out w4).mono ?_; rintro e' w4' ⟨rfl, rfl⟩
              generalize onI X (j : Int) = xj at *
              generalize onI Z (j : Int) = zj at *
              cases xj
              · cases zj
                · go_wp2_with fail
                  refine wp_flow3 31 0 [isV (.bool true), isV (.bool true), isV (.slice (some ⟨bY, oY, none⟩) gn cy), isV (.int .i64 j), isV (.pointer (some ⟨bY, oY + j, none⟩)), isV (.bool false), isV (.slice (some ⟨bB, oB, none⟩) gn cb), isV (.int .i64 j), isV (.pointer (some ⟨bB, oB + j, none⟩)), isV (.bool false), isV (.bool false), isV (.slice (some ⟨bZ, oZ, none⟩) gn cz), isV (.int .i64 j), isV (.pointer (some ⟨bZ, oZ + j, none⟩)), isV (.bool false), isV (.bool false), isV (.bool true), isV (.bool true), isV (.bool true), isV (.slice (some ⟨bB, oB, none⟩) gn cb), isV (.int .i64 g), isV (.pointer (some ⟨bB, oB + g, none⟩)), isV (.bool true), isV (.bool false), isV (.bool false), isV (.slice (some ⟨bB, oB, none⟩) gn cb), isV (.slice (some ⟨bY, oY, none⟩) gn cy), isV (.bool true), isV (.bool true), isV (.bool true), isV (.bool true)] (by kernel_rfl) rfl rfl (by kernel_rfl) (by kernel_rfl) ⟨isV_mono, isV_mono, isV_mono, isV_mono, isV_mono, isV_mono, isV_mono, isV_mono, isV_mono, isV_mono, isV_mono, isV_mono, isV_mono, isV_mono, isV_mono, isV_mono, isV_mono, isV_mono, isV_mono, isV_mono, isV_mono, isV_mono, isV_mono, isV_mono, isV_mono, isV_mono, isV_mono, isV_mono, isV_mono, isV_mono, isV_mono, trivial⟩ ?each ?rest
                  case each =>
                    refine .cons ?_ (.cons ?_ (.cons ?_ (.cons ?_ (.cons ?_ (.cons ?_ (.cons ?_ (.cons ?_ (.cons ?_ (.cons ?_ (.cons ?_ (.cons ?_ (.cons ?_ (.cons ?_ (.cons ?_ (.cons ?_ (.cons ?_ (.cons ?_ (.cons ?_ (.cons ?_ (.cons ?_ (.cons ?_ (.cons ?_ (.cons ?_ (.cons ?_ (.cons ?_ (.cons ?_ (.cons ?_ (.cons ?_ (.cons ?_ (.cons ?_ (.nil)))))))))))))))))))))))))))))))
                    · intro fa fw hx hs hb
                      refine .inl ⟨wanted_free rfl, fun K hK => ?_⟩
                      clear hs hb
                      go_simp
                      refine (netBegun_any fw).mono ?_
                      rintro e w' ⟨rfl, xq⟩
                      exact hK _ _ rfl xq
                    · intro fa fw hx hs hb
                      obtain ⟨_, s116, rfl⟩ := hs 0 116 (by kernel_rfl) (by kernel_rfl)
                      refine .inl ⟨wanted_free rfl, fun K hK => ?_⟩
                      clear hs hb hx
                      go_simp
                      exact hK _ _ rfl (Ext.refl _)
                    · intro fa fw hx hs hb
                      obtain ⟨_, s117, rfl⟩ := hs 1 117 (by kernel_rfl) (by kernel_rfl)
                      have s13 : fa.tmps[(13 : Nat)]? = some (.slice (some ⟨bY, oY, none⟩) gn cy) := (hb 13 (by kernel_rfl)).trans (by rfl)
                      refine .inl ⟨wanted_yes 1 true 117 rfl (by kernel_rfl) s117, fun K hK => ?_⟩
                      clear hs hb hx
                      go_simp
                      exact hK _ _ rfl (Ext.refl _)
                    · intro fa fw hx hs hb
                      obtain ⟨_, s117, rfl⟩ := hs 1 117 (by kernel_rfl) (by kernel_rfl)
                      have s17 : fa.tmps[(17 : Nat)]? = some (.int .i64 j) := (hb 17 (by kernel_rfl)).trans (by rfl)
                      refine .inl ⟨wanted_yes 1 true 117 rfl (by kernel_rfl) s117, fun K hK => ?_⟩
                      clear hs hb hx
                      go_simp
                      exact hK _ _ rfl (Ext.refl _)
                    · intro fa fw hx hs hb
                      obtain ⟨_, s117, rfl⟩ := hs 1 117 (by kernel_rfl) (by kernel_rfl)
                      obtain ⟨_, s118, rfl⟩ := hs 2 118 (by kernel_rfl) (by kernel_rfl)
                      obtain ⟨_, s119, rfl⟩ := hs 3 119 (by kernel_rfl) (by kernel_rfl)
                      refine .inl ⟨wanted_yes 1 true 117 rfl (by kernel_rfl) s117, fun K hK => ?_⟩
                      clear hs hb hx
                      go_simp
                      exact hK _ _ rfl (Ext.refl _)
                    · intro fa fw hx hs hb
                      obtain ⟨_, s117, rfl⟩ := hs 1 117 (by kernel_rfl) (by kernel_rfl)
                      obtain ⟨_, s120, rfl⟩ := hs 4 120 (by kernel_rfl) (by kernel_rfl)
                      have c0 := hx.keeps _ _ CYJ.out
                      refine .inl ⟨wanted_yes 1 true 117 rfl (by kernel_rfl) s117, fun K hK => ?_⟩
                      clear hs hb hx
                      go_simp
                      exact hK _ _ rfl (Ext.refl _)
                    · intro fa fw hx hs hb
                      obtain ⟨_, s117, rfl⟩ := hs 1 117 (by kernel_rfl) (by kernel_rfl)
                      have s9 : fa.tmps[(9 : Nat)]? = some (.slice (some ⟨bB, oB, none⟩) gn cb) := (hb 9 (by kernel_rfl)).trans (by rfl)
                      refine .inl ⟨wanted_yes 1 true 117 rfl (by kernel_rfl) s117, fun K hK => ?_⟩
                      clear hs hb hx
                      go_simp
                      exact hK _ _ rfl (Ext.refl _)
                    · intro fa fw hx hs hb
                      obtain ⟨_, s117, rfl⟩ := hs 1 117 (by kernel_rfl) (by kernel_rfl)
                      have s17 : fa.tmps[(17 : Nat)]? = some (.int .i64 j) := (hb 17 (by kernel_rfl)).trans (by rfl)
                      refine .inl ⟨wanted_yes 1 true 117 rfl (by kernel_rfl) s117, fun K hK => ?_⟩
                      clear hs hb hx
                      go_simp
                      exact hK _ _ rfl (Ext.refl _)
                    · intro fa fw hx hs hb
                      obtain ⟨_, s117, rfl⟩ := hs 1 117 (by kernel_rfl) (by kernel_rfl)
                      obtain ⟨_, s122, rfl⟩ := hs 6 122 (by kernel_rfl) (by kernel_rfl)
                      obtain ⟨_, s123, rfl⟩ := hs 7 123 (by kernel_rfl) (by kernel_rfl)
                      refine .inl ⟨wanted_yes 1 true 117 rfl (by kernel_rfl) s117, fun K hK => ?_⟩
                      clear hs hb hx
                      go_simp
                      exact hK _ _ rfl (Ext.refl _)
                    · intro fa fw hx hs hb
                      obtain ⟨_, s117, rfl⟩ := hs 1 117 (by kernel_rfl) (by kernel_rfl)
                      obtain ⟨_, s124, rfl⟩ := hs 8 124 (by kernel_rfl) (by kernel_rfl)
                      have c0 := hx.keeps _ _ CXJ.out
                      refine .inl ⟨wanted_yes 1 true 117 rfl (by kernel_rfl) s117, fun K hK => ?_⟩
                      clear hs hb hx
                      go_simp
                      exact hK _ _ rfl (Ext.refl _)
                    · intro fa fw hx hs hb
                      obtain ⟨_, s117, rfl⟩ := hs 1 117 (by kernel_rfl) (by kernel_rfl)
                      obtain ⟨_, s125, rfl⟩ := hs 9 125 (by kernel_rfl) (by kernel_rfl)
                      refine .inl ⟨wanted_yes 1 true 117 rfl (by kernel_rfl) s117, fun K hK => ?_⟩
                      clear hs hb hx
                      go_simp
                      exact hK _ _ rfl (Ext.refl _)
                    · intro fa fw hx hs hb
                      obtain ⟨_, s126, rfl⟩ := hs 10 126 (by kernel_rfl) (by kernel_rfl)
                      have s15 : fa.tmps[(15 : Nat)]? = some (.slice (some ⟨bZ, oZ, none⟩) gn cz) := (hb 15 (by kernel_rfl)).trans (by rfl)
                      refine .inl ⟨wanted_yes 10 false 126 rfl (by kernel_rfl) s126, fun K hK => ?_⟩
                      clear hs hb hx
                      go_simp
                      exact hK _ _ rfl (Ext.refl _)
                    · intro fa fw hx hs hb
                      obtain ⟨_, s126, rfl⟩ := hs 10 126 (by kernel_rfl) (by kernel_rfl)
                      have s17 : fa.tmps[(17 : Nat)]? = some (.int .i64 j) := (hb 17 (by kernel_rfl)).trans (by rfl)
                      refine .inl ⟨wanted_yes 10 false 126 rfl (by kernel_rfl) s126, fun K hK => ?_⟩
                      clear hs hb hx
                      go_simp
                      exact hK _ _ rfl (Ext.refl _)
                    · intro fa fw hx hs hb
                      obtain ⟨_, s126, rfl⟩ := hs 10 126 (by kernel_rfl) (by kernel_rfl)
                      obtain ⟨_, s127, rfl⟩ := hs 11 127 (by kernel_rfl) (by kernel_rfl)
                      obtain ⟨_, s128, rfl⟩ := hs 12 128 (by kernel_rfl) (by kernel_rfl)
                      refine .inl ⟨wanted_yes 10 false 126 rfl (by kernel_rfl) s126, fun K hK => ?_⟩
                      clear hs hb hx
                      go_simp
                      exact hK _ _ rfl (Ext.refl _)
                    · intro fa fw hx hs hb
                      obtain ⟨_, s126, rfl⟩ := hs 10 126 (by kernel_rfl) (by kernel_rfl)
                      obtain ⟨_, s129, rfl⟩ := hs 13 129 (by kernel_rfl) (by kernel_rfl)
                      have c0 := hx.keeps _ _ CZJ.out
                      refine .inl ⟨wanted_yes 10 false 126 rfl (by kernel_rfl) s126, fun K hK => ?_⟩
                      clear hs hb hx
                      go_simp
                      exact hK _ _ rfl (Ext.refl _)
                    · intro fa fw hx hs hb
                      obtain ⟨_, s117, rfl⟩ := hs 1 117 (by kernel_rfl) (by kernel_rfl)
                      obtain ⟨_, s126, rfl⟩ := hs 10 126 (by kernel_rfl) (by kernel_rfl)
                      obtain ⟨_, s130, rfl⟩ := hs 14 130 (by kernel_rfl) (by kernel_rfl)
                      refine .inl ⟨wanted_yes 1 true 117 rfl (by kernel_rfl) s117, fun K hK => ?_⟩
                      clear hs hb hx
                      go_simp
                      exact hK _ _ rfl (Ext.refl _)
                    · intro fa fw hx hs hb
                      obtain ⟨_, s117, rfl⟩ := hs 1 117 (by kernel_rfl) (by kernel_rfl)
                      obtain ⟨_, s121, rfl⟩ := hs 5 121 (by kernel_rfl) (by kernel_rfl)
                      obtain ⟨_, s131, rfl⟩ := hs 15 131 (by kernel_rfl) (by kernel_rfl)
                      refine .inl ⟨wanted_yes 1 true 117 rfl (by kernel_rfl) s117, fun K hK => ?_⟩
                      clear hs hb hx
                      go_simp
                      exact hK _ _ rfl (Ext.refl _)
                    · intro fa fw hx hs hb
                      obtain ⟨_, s117, rfl⟩ := hs 1 117 (by kernel_rfl) (by kernel_rfl)
                      obtain ⟨_, s132, rfl⟩ := hs 16 132 (by kernel_rfl) (by kernel_rfl)
                      refine .inl ⟨wanted_free rfl, fun K hK => ?_⟩
                      clear hs hb hx
                      go_simp
                      exact hK _ _ rfl (Ext.refl _)
                    · intro fa fw hx hs hb
                      obtain ⟨_, s133, rfl⟩ := hs 17 133 (by kernel_rfl) (by kernel_rfl)
                      refine .inl ⟨wanted_free rfl, fun K hK => ?_⟩
                      clear hs hb hx
                      go_simp
                      exact hK _ _ rfl (Ext.refl _)
                    · intro fa fw hx hs hb
                      obtain ⟨_, s134, rfl⟩ := hs 18 134 (by kernel_rfl) (by kernel_rfl)
                      have s9 : fa.tmps[(9 : Nat)]? = some (.slice (some ⟨bB, oB, none⟩) gn cb) := (hb 9 (by kernel_rfl)).trans (by rfl)
                      refine .inl ⟨wanted_yes 18 true 134 rfl (by kernel_rfl) s134, fun K hK => ?_⟩
                      clear hs hb hx
                      go_simp
                      exact hK _ _ rfl (Ext.refl _)
                    · intro fa fw hx hs hb
                      obtain ⟨_, s134, rfl⟩ := hs 18 134 (by kernel_rfl) (by kernel_rfl)
                      have s11 : fa.tmps[(11 : Nat)]? = some (.int .i64 g) := (hb 11 (by kernel_rfl)).trans (by rfl)
                      refine .inl ⟨wanted_yes 18 true 134 rfl (by kernel_rfl) s134, fun K hK => ?_⟩
                      clear hs hb hx
                      go_simp
                      exact hK _ _ rfl (Ext.refl _)
                    · intro fa fw hx hs hb
                      obtain ⟨_, s134, rfl⟩ := hs 18 134 (by kernel_rfl) (by kernel_rfl)
                      obtain ⟨_, s135, rfl⟩ := hs 19 135 (by kernel_rfl) (by kernel_rfl)
                      obtain ⟨_, s136, rfl⟩ := hs 20 136 (by kernel_rfl) (by kernel_rfl)
                      refine .inl ⟨wanted_yes 18 true 134 rfl (by kernel_rfl) s134, fun K hK => ?_⟩
                      clear hs hb hx
                      go_simp
                      exact hK _ _ rfl (Ext.refl _)
                    · intro fa fw hx hs hb
                      obtain ⟨_, s134, rfl⟩ := hs 18 134 (by kernel_rfl) (by kernel_rfl)
                      obtain ⟨_, s137, rfl⟩ := hs 21 137 (by kernel_rfl) (by kernel_rfl)
                      have c0 := hx.keeps _ _ CXG2.out
                      refine .inl ⟨wanted_yes 18 true 134 rfl (by kernel_rfl) s134, fun K hK => ?_⟩
                      clear hs hb hx
                      go_simp
                      exact hK _ _ rfl (Ext.refl _)
                    · intro fa fw hx hs hb
                      obtain ⟨_, s134, rfl⟩ := hs 18 134 (by kernel_rfl) (by kernel_rfl)
                      obtain ⟨_, s138, rfl⟩ := hs 22 138 (by kernel_rfl) (by kernel_rfl)
                      refine .inl ⟨wanted_yes 18 true 134 rfl (by kernel_rfl) s134, fun K hK => ?_⟩
                      clear hs hb hx
                      go_simp
                      exact hK _ _ rfl (Ext.refl _)
                    · intro fa fw hx hs hb
                      obtain ⟨_, s134, rfl⟩ := hs 18 134 (by kernel_rfl) (by kernel_rfl)
                      obtain ⟨_, s139, rfl⟩ := hs 23 139 (by kernel_rfl) (by kernel_rfl)
                      refine .inl ⟨wanted_yes 18 true 134 rfl (by kernel_rfl) s134, fun K hK => ?_⟩
                      clear hs hb hx
                      go_simp
                      exact hK _ _ rfl (Ext.refl _)
                    · intro fa fw hx hs hb
                      obtain ⟨_, s140, rfl⟩ := hs 24 140 (by kernel_rfl) (by kernel_rfl)
                      have s9 : fa.tmps[(9 : Nat)]? = some (.slice (some ⟨bB, oB, none⟩) gn cb) := (hb 9 (by kernel_rfl)).trans (by rfl)
                      refine .inl ⟨wanted_yes 24 false 140 rfl (by kernel_rfl) s140, fun K hK => ?_⟩
                      clear hs hb hx
                      go_simp
                      exact hK _ _ rfl (Ext.refl _)
                    · intro fa fw hx hs hb
                      obtain ⟨_, s140, rfl⟩ := hs 24 140 (by kernel_rfl) (by kernel_rfl)
                      have s13 : fa.tmps[(13 : Nat)]? = some (.slice (some ⟨bY, oY, none⟩) gn cy) := (hb 13 (by kernel_rfl)).trans (by rfl)
                      refine .inl ⟨wanted_yes 24 false 140 rfl (by kernel_rfl) s140, fun K hK => ?_⟩
                      clear hs hb hx
                      go_simp
                      exact hK _ _ rfl (Ext.refl _)
                    · intro fa fw hx hs hb
                      obtain ⟨_, s140, rfl⟩ := hs 24 140 (by kernel_rfl) (by kernel_rfl)
                      obtain ⟨_, s141, rfl⟩ := hs 25 141 (by kernel_rfl) (by kernel_rfl)
                      obtain ⟨_, s142, rfl⟩ := hs 26 142 (by kernel_rfl) (by kernel_rfl)
                      refine .inl ⟨wanted_yes 24 false 140 rfl (by kernel_rfl) s140, fun K hK => ?_⟩
                      clear hs hb
                      go_simp
                      refine (sameBools_any (some ⟨bB, oB, none⟩) (some ⟨bY, oY, none⟩) gn gn cb cy X Y fw (SX5.out.keep hx.keeps) (SY5.out.keep hx.keeps) GM.out GM.out).mono ?_
                      rintro e w' ⟨rfl, mq, rfl⟩
                      rw [decide_eq_true (HSA.out HXV.out)]
                      exact hK _ _ rfl ((Ext.refl fw).drewN mq)
                    · intro fa fw hx hs hb
                      obtain ⟨_, s134, rfl⟩ := hs 18 134 (by kernel_rfl) (by kernel_rfl)
                      obtain ⟨_, s140, rfl⟩ := hs 24 140 (by kernel_rfl) (by kernel_rfl)
                      obtain ⟨_, s143, rfl⟩ := hs 27 143 (by kernel_rfl) (by kernel_rfl)
                      refine .inl ⟨wanted_yes 18 true 134 rfl (by kernel_rfl) s134, fun K hK => ?_⟩
                      clear hs hb hx
                      go_simp
                      exact hK _ _ rfl (Ext.refl _)
                    · intro fa fw hx hs hb
                      obtain ⟨_, s134, rfl⟩ := hs 18 134 (by kernel_rfl) (by kernel_rfl)
                      obtain ⟨_, s144, rfl⟩ := hs 28 144 (by kernel_rfl) (by kernel_rfl)
                      refine .inl ⟨wanted_free rfl, fun K hK => ?_⟩
                      clear hs hb hx
                      go_simp
                      exact hK _ _ rfl (Ext.refl _)
                    · intro fa fw hx hs hb
                      obtain ⟨_, s145, rfl⟩ := hs 29 145 (by kernel_rfl) (by kernel_rfl)
                      refine .inl ⟨wanted_free rfl, fun K hK => ?_⟩
                      clear hs hb hx
                      go_simp
                      exact hK _ _ rfl (Ext.refl _)
                  case rest =>
                    intro w7 hxw7
                    rintro _ rfl
                    rintro _ rfl
                    rintro _ rfl
                    rintro _ rfl
                    rintro _ rfl
                    rintro _ rfl
                    rintro _ rfl
                    rintro _ rfl
                    rintro _ rfl
                    rintro _ rfl
                    rintro _ rfl
                    rintro _ rfl
                    rintro _ rfl
                    rintro _ rfl
                    rintro _ rfl
                    rintro _ rfl
                    rintro _ rfl
                    rintro _ rfl
                    rintro _ rfl
                    rintro _ rfl
                    rintro _ rfl
                    rintro _ rfl
                    rintro _ rfl
                    rintro _ rfl
                    rintro _ rfl
                    rintro _ rfl
                    rintro _ rfl
                    rintro _ rfl
                    rintro _ rfl
                    rintro _ rfl
                    rintro _ rfl
                    simp only [putAll, List.take, Act.put, List.setIfInBounds_toArray, List.set_cons_zero, List.set_cons_succ]
                    refine wpAny_done (by kernel_rfl) ?_ _
                    go_wp2
                    go_ret
                    exact ⟨rfl, HX.out.trans (X1.out.trans (X4.out.trans hxw7))⟩
                · go_wp2_with fail
                  refine wp_flow3 31 0 [isV (.bool true), isV (.bool true), isV (.slice (some ⟨bY, oY, none⟩) gn cy), isV (.int .i64 j), isV (.pointer (some ⟨bY, oY + j, none⟩)), isV (.bool true), isV (.slice (some ⟨bB, oB, none⟩) gn cb), isV (.int .i64 j), isV (.pointer (some ⟨bB, oB + j, none⟩)), isV (.bool false), isV (.bool false), isV (.slice (some ⟨bZ, oZ, none⟩) gn cz), isV (.int .i64 j), isV (.pointer (some ⟨bZ, oZ + j, none⟩)), isV (.bool true), isV (.bool true), isV (.bool true), isV (.bool true), isV (.bool true), isV (.slice (some ⟨bB, oB, none⟩) gn cb), isV (.int .i64 g), isV (.pointer (some ⟨bB, oB + g, none⟩)), isV (.bool true), isV (.bool false), isV (.bool false), isV (.slice (some ⟨bB, oB, none⟩) gn cb), isV (.slice (some ⟨bY, oY, none⟩) gn cy), isV (.bool true), isV (.bool true), isV (.bool true), isV (.bool true)] (by kernel_rfl) rfl rfl (by kernel_rfl) (by kernel_rfl) ⟨isV_mono, isV_mono, isV_mono, isV_mono, isV_mono, isV_mono, isV_mono, isV_mono, isV_mono, isV_mono, isV_mono, isV_mono, isV_mono, isV_mono, isV_mono, isV_mono, isV_mono, isV_mono, isV_mono, isV_mono, isV_mono, isV_mono, isV_mono, isV_mono, isV_mono, isV_mono, isV_mono, isV_mono, isV_mono, isV_mono, isV_mono, trivial⟩ ?each ?rest
                  case each =>
                    refine .cons ?_ (.cons ?_ (.cons ?_ (.cons ?_ (.cons ?_ (.cons ?_ (.cons ?_ (.cons ?_ (.cons ?_ (.cons ?_ (.cons ?_ (.cons ?_ (.cons ?_ (.cons ?_ (.cons ?_ (.cons ?_ (.cons ?_ (.cons ?_ (.cons ?_ (.cons ?_ (.cons ?_ (.cons ?_ (.cons ?_ (.cons ?_ (.cons ?_ (.cons ?_ (.cons ?_ (.cons ?_ (.cons ?_ (.cons ?_ (.cons ?_ (.nil)))))))))))))))))))))))))))))))
                    · intro fa fw hx hs hb
                      refine .inl ⟨wanted_free rfl, fun K hK => ?_⟩
                      clear hs hb
                      go_simp
                      refine (netBegun_any fw).mono ?_
                      rintro e w' ⟨rfl, xq⟩
                      exact hK _ _ rfl xq
                    · intro fa fw hx hs hb
                      obtain ⟨_, s116, rfl⟩ := hs 0 116 (by kernel_rfl) (by kernel_rfl)
                      refine .inl ⟨wanted_free rfl, fun K hK => ?_⟩
                      clear hs hb hx
                      go_simp
                      exact hK _ _ rfl (Ext.refl _)
                    · intro fa fw hx hs hb
                      obtain ⟨_, s117, rfl⟩ := hs 1 117 (by kernel_rfl) (by kernel_rfl)
                      have s13 : fa.tmps[(13 : Nat)]? = some (.slice (some ⟨bY, oY, none⟩) gn cy) := (hb 13 (by kernel_rfl)).trans (by rfl)
                      refine .inl ⟨wanted_yes 1 true 117 rfl (by kernel_rfl) s117, fun K hK => ?_⟩
                      clear hs hb hx
                      go_simp
                      exact hK _ _ rfl (Ext.refl _)
                    · intro fa fw hx hs hb
                      obtain ⟨_, s117, rfl⟩ := hs 1 117 (by kernel_rfl) (by kernel_rfl)
                      have s17 : fa.tmps[(17 : Nat)]? = some (.int .i64 j) := (hb 17 (by kernel_rfl)).trans (by rfl)
                      refine .inl ⟨wanted_yes 1 true 117 rfl (by kernel_rfl) s117, fun K hK => ?_⟩
                      clear hs hb hx
                      go_simp
                      exact hK _ _ rfl (Ext.refl _)
                    · intro fa fw hx hs hb
                      obtain ⟨_, s117, rfl⟩ := hs 1 117 (by kernel_rfl) (by kernel_rfl)
                      obtain ⟨_, s118, rfl⟩ := hs 2 118 (by kernel_rfl) (by kernel_rfl)
                      obtain ⟨_, s119, rfl⟩ := hs 3 119 (by kernel_rfl) (by kernel_rfl)
                      refine .inl ⟨wanted_yes 1 true 117 rfl (by kernel_rfl) s117, fun K hK => ?_⟩
                      clear hs hb hx
                      go_simp
                      exact hK _ _ rfl (Ext.refl _)
                    · intro fa fw hx hs hb
                      obtain ⟨_, s117, rfl⟩ := hs 1 117 (by kernel_rfl) (by kernel_rfl)
                      obtain ⟨_, s120, rfl⟩ := hs 4 120 (by kernel_rfl) (by kernel_rfl)
                      have c0 := hx.keeps _ _ CYJ.out
                      refine .inl ⟨wanted_yes 1 true 117 rfl (by kernel_rfl) s117, fun K hK => ?_⟩
                      clear hs hb hx
                      go_simp
                      exact hK _ _ rfl (Ext.refl _)
                    · intro fa fw hx hs hb
                      obtain ⟨_, s117, rfl⟩ := hs 1 117 (by kernel_rfl) (by kernel_rfl)
                      have s9 : fa.tmps[(9 : Nat)]? = some (.slice (some ⟨bB, oB, none⟩) gn cb) := (hb 9 (by kernel_rfl)).trans (by rfl)
                      refine .inl ⟨wanted_yes 1 true 117 rfl (by kernel_rfl) s117, fun K hK => ?_⟩
                      clear hs hb hx
                      go_simp
                      exact hK _ _ rfl (Ext.refl _)
                    · intro fa fw hx hs hb
                      obtain ⟨_, s117, rfl⟩ := hs 1 117 (by kernel_rfl) (by kernel_rfl)
                      have s17 : fa.tmps[(17 : Nat)]? = some (.int .i64 j) := (hb 17 (by kernel_rfl)).trans (by rfl)
                      refine .inl ⟨wanted_yes 1 true 117 rfl (by kernel_rfl) s117, fun K hK => ?_⟩
                      clear hs hb hx
                      go_simp
                      exact hK _ _ rfl (Ext.refl _)
                    · intro fa fw hx hs hb
                      obtain ⟨_, s117, rfl⟩ := hs 1 117 (by kernel_rfl) (by kernel_rfl)
                      obtain ⟨_, s122, rfl⟩ := hs 6 122 (by kernel_rfl) (by kernel_rfl)
                      obtain ⟨_, s123, rfl⟩ := hs 7 123 (by kernel_rfl) (by kernel_rfl)
                      refine .inl ⟨wanted_yes 1 true 117 rfl (by kernel_rfl) s117, fun K hK => ?_⟩
                      clear hs hb hx
                      go_simp
                      exact hK _ _ rfl (Ext.refl _)
                    · intro fa fw hx hs hb
                      obtain ⟨_, s117, rfl⟩ := hs 1 117 (by kernel_rfl) (by kernel_rfl)
                      obtain ⟨_, s124, rfl⟩ := hs 8 124 (by kernel_rfl) (by kernel_rfl)
                      have c0 := hx.keeps _ _ CXJ.out
                      refine .inl ⟨wanted_yes 1 true 117 rfl (by kernel_rfl) s117, fun K hK => ?_⟩
                      clear hs hb hx
                      go_simp
                      exact hK _ _ rfl (Ext.refl _)
                    · intro fa fw hx hs hb
                      obtain ⟨_, s117, rfl⟩ := hs 1 117 (by kernel_rfl) (by kernel_rfl)
                      obtain ⟨_, s125, rfl⟩ := hs 9 125 (by kernel_rfl) (by kernel_rfl)
                      refine .inl ⟨wanted_yes 1 true 117 rfl (by kernel_rfl) s117, fun K hK => ?_⟩
                      clear hs hb hx
                      go_simp
                      exact hK _ _ rfl (Ext.refl _)
                    · intro fa fw hx hs hb
                      obtain ⟨_, s126, rfl⟩ := hs 10 126 (by kernel_rfl) (by kernel_rfl)
                      have s15 : fa.tmps[(15 : Nat)]? = some (.slice (some ⟨bZ, oZ, none⟩) gn cz) := (hb 15 (by kernel_rfl)).trans (by rfl)
                      refine .inl ⟨wanted_yes 10 false 126 rfl (by kernel_rfl) s126, fun K hK => ?_⟩
                      clear hs hb hx
                      go_simp
                      exact hK _ _ rfl (Ext.refl _)
                    · intro fa fw hx hs hb
                      obtain ⟨_, s126, rfl⟩ := hs 10 126 (by kernel_rfl) (by kernel_rfl)
                      have s17 : fa.tmps[(17 : Nat)]? = some (.int .i64 j) := (hb 17 (by kernel_rfl)).trans (by rfl)
                      refine .inl ⟨wanted_yes 10 false 126 rfl (by kernel_rfl) s126, fun K hK => ?_⟩
                      clear hs hb hx
                      go_simp
                      exact hK _ _ rfl (Ext.refl _)
                    · intro fa fw hx hs hb
                      obtain ⟨_, s126, rfl⟩ := hs 10 126 (by kernel_rfl) (by kernel_rfl)
                      obtain ⟨_, s127, rfl⟩ := hs 11 127 (by kernel_rfl) (by kernel_rfl)
                      obtain ⟨_, s128, rfl⟩ := hs 12 128 (by kernel_rfl) (by kernel_rfl)
                      refine .inl ⟨wanted_yes 10 false 126 rfl (by kernel_rfl) s126, fun K hK => ?_⟩
                      clear hs hb hx
                      go_simp
                      exact hK _ _ rfl (Ext.refl _)
                    · intro fa fw hx hs hb
                      obtain ⟨_, s126, rfl⟩ := hs 10 126 (by kernel_rfl) (by kernel_rfl)
                      obtain ⟨_, s129, rfl⟩ := hs 13 129 (by kernel_rfl) (by kernel_rfl)
                      have c0 := hx.keeps _ _ CZJ.out
                      refine .inl ⟨wanted_yes 10 false 126 rfl (by kernel_rfl) s126, fun K hK => ?_⟩
                      clear hs hb hx
                      go_simp
                      exact hK _ _ rfl (Ext.refl _)
                    · intro fa fw hx hs hb
                      obtain ⟨_, s117, rfl⟩ := hs 1 117 (by kernel_rfl) (by kernel_rfl)
                      obtain ⟨_, s126, rfl⟩ := hs 10 126 (by kernel_rfl) (by kernel_rfl)
                      obtain ⟨_, s130, rfl⟩ := hs 14 130 (by kernel_rfl) (by kernel_rfl)
                      refine .inl ⟨wanted_yes 1 true 117 rfl (by kernel_rfl) s117, fun K hK => ?_⟩
                      clear hs hb hx
                      go_simp
                      exact hK _ _ rfl (Ext.refl _)
                    · intro fa fw hx hs hb
                      obtain ⟨_, s117, rfl⟩ := hs 1 117 (by kernel_rfl) (by kernel_rfl)
                      obtain ⟨_, s121, rfl⟩ := hs 5 121 (by kernel_rfl) (by kernel_rfl)
                      obtain ⟨_, s131, rfl⟩ := hs 15 131 (by kernel_rfl) (by kernel_rfl)
                      refine .inl ⟨wanted_yes 1 true 117 rfl (by kernel_rfl) s117, fun K hK => ?_⟩
                      clear hs hb hx
                      go_simp
                      exact hK _ _ rfl (Ext.refl _)
                    · intro fa fw hx hs hb
                      obtain ⟨_, s117, rfl⟩ := hs 1 117 (by kernel_rfl) (by kernel_rfl)
                      obtain ⟨_, s132, rfl⟩ := hs 16 132 (by kernel_rfl) (by kernel_rfl)
                      refine .inl ⟨wanted_free rfl, fun K hK => ?_⟩
                      clear hs hb hx
                      go_simp
                      exact hK _ _ rfl (Ext.refl _)
                    · intro fa fw hx hs hb
                      obtain ⟨_, s133, rfl⟩ := hs 17 133 (by kernel_rfl) (by kernel_rfl)
                      refine .inl ⟨wanted_free rfl, fun K hK => ?_⟩
                      clear hs hb hx
                      go_simp
                      exact hK _ _ rfl (Ext.refl _)
                    · intro fa fw hx hs hb
                      obtain ⟨_, s134, rfl⟩ := hs 18 134 (by kernel_rfl) (by kernel_rfl)
                      have s9 : fa.tmps[(9 : Nat)]? = some (.slice (some ⟨bB, oB, none⟩) gn cb) := (hb 9 (by kernel_rfl)).trans (by rfl)
                      refine .inl ⟨wanted_yes 18 true 134 rfl (by kernel_rfl) s134, fun K hK => ?_⟩
                      clear hs hb hx
                      go_simp
                      exact hK _ _ rfl (Ext.refl _)
                    · intro fa fw hx hs hb
                      obtain ⟨_, s134, rfl⟩ := hs 18 134 (by kernel_rfl) (by kernel_rfl)
                      have s11 : fa.tmps[(11 : Nat)]? = some (.int .i64 g) := (hb 11 (by kernel_rfl)).trans (by rfl)
                      refine .inl ⟨wanted_yes 18 true 134 rfl (by kernel_rfl) s134, fun K hK => ?_⟩
                      clear hs hb hx
                      go_simp
                      exact hK _ _ rfl (Ext.refl _)
                    · intro fa fw hx hs hb
                      obtain ⟨_, s134, rfl⟩ := hs 18 134 (by kernel_rfl) (by kernel_rfl)
                      obtain ⟨_, s135, rfl⟩ := hs 19 135 (by kernel_rfl) (by kernel_rfl)
                      obtain ⟨_, s136, rfl⟩ := hs 20 136 (by kernel_rfl) (by kernel_rfl)
                      refine .inl ⟨wanted_yes 18 true 134 rfl (by kernel_rfl) s134, fun K hK => ?_⟩
                      clear hs hb hx
                      go_simp
                      exact hK _ _ rfl (Ext.refl _)
                    · intro fa fw hx hs hb
                      obtain ⟨_, s134, rfl⟩ := hs 18 134 (by kernel_rfl) (by kernel_rfl)
                      obtain ⟨_, s137, rfl⟩ := hs 21 137 (by kernel_rfl) (by kernel_rfl)
                      have c0 := hx.keeps _ _ CXG2.out
                      refine .inl ⟨wanted_yes 18 true 134 rfl (by kernel_rfl) s134, fun K hK => ?_⟩
                      clear hs hb hx
                      go_simp
                      exact hK _ _ rfl (Ext.refl _)
                    · intro fa fw hx hs hb
                      obtain ⟨_, s134, rfl⟩ := hs 18 134 (by kernel_rfl) (by kernel_rfl)
                      obtain ⟨_, s138, rfl⟩ := hs 22 138 (by kernel_rfl) (by kernel_rfl)
                      refine .inl ⟨wanted_yes 18 true 134 rfl (by kernel_rfl) s134, fun K hK => ?_⟩
                      clear hs hb hx
                      go_simp
                      exact hK _ _ rfl (Ext.refl _)
                    · intro fa fw hx hs hb
                      obtain ⟨_, s134, rfl⟩ := hs 18 134 (by kernel_rfl) (by kernel_rfl)
                      obtain ⟨_, s139, rfl⟩ := hs 23 139 (by kernel_rfl) (by kernel_rfl)
                      refine .inl ⟨wanted_yes 18 true 134 rfl (by kernel_rfl) s134, fun K hK => ?_⟩
                      clear hs hb hx
                      go_simp
                      exact hK _ _ rfl (Ext.refl _)
                    · intro fa fw hx hs hb
                      obtain ⟨_, s140, rfl⟩ := hs 24 140 (by kernel_rfl) (by kernel_rfl)
                      have s9 : fa.tmps[(9 : Nat)]? = some (.slice (some ⟨bB, oB, none⟩) gn cb) := (hb 9 (by kernel_rfl)).trans (by rfl)
                      refine .inl ⟨wanted_yes 24 false 140 rfl (by kernel_rfl) s140, fun K hK => ?_⟩
                      clear hs hb hx
                      go_simp
                      exact hK _ _ rfl (Ext.refl _)
                    · intro fa fw hx hs hb
                      obtain ⟨_, s140, rfl⟩ := hs 24 140 (by kernel_rfl) (by kernel_rfl)
                      have s13 : fa.tmps[(13 : Nat)]? = some (.slice (some ⟨bY, oY, none⟩) gn cy) := (hb 13 (by kernel_rfl)).trans (by rfl)
                      refine .inl ⟨wanted_yes 24 false 140 rfl (by kernel_rfl) s140, fun K hK => ?_⟩
                      clear hs hb hx
                      go_simp
                      exact hK _ _ rfl (Ext.refl _)
                    · intro fa fw hx hs hb
                      obtain ⟨_, s140, rfl⟩ := hs 24 140 (by kernel_rfl) (by kernel_rfl)
                      obtain ⟨_, s141, rfl⟩ := hs 25 141 (by kernel_rfl) (by kernel_rfl)
                      obtain ⟨_, s142, rfl⟩ := hs 26 142 (by kernel_rfl) (by kernel_rfl)
                      refine .inl ⟨wanted_yes 24 false 140 rfl (by kernel_rfl) s140, fun K hK => ?_⟩
                      clear hs hb
                      go_simp
                      refine (sameBools_any (some ⟨bB, oB, none⟩) (some ⟨bY, oY, none⟩) gn gn cb cy X Y fw (SX5.out.keep hx.keeps) (SY5.out.keep hx.keeps) GM.out GM.out).mono ?_
                      rintro e w' ⟨rfl, mq, rfl⟩
                      rw [decide_eq_true (HSA.out HXV.out)]
                      exact hK _ _ rfl ((Ext.refl fw).drewN mq)
                    · intro fa fw hx hs hb
                      obtain ⟨_, s134, rfl⟩ := hs 18 134 (by kernel_rfl) (by kernel_rfl)
                      obtain ⟨_, s140, rfl⟩ := hs 24 140 (by kernel_rfl) (by kernel_rfl)
                      obtain ⟨_, s143, rfl⟩ := hs 27 143 (by kernel_rfl) (by kernel_rfl)
                      refine .inl ⟨wanted_yes 18 true 134 rfl (by kernel_rfl) s134, fun K hK => ?_⟩
                      clear hs hb hx
                      go_simp
                      exact hK _ _ rfl (Ext.refl _)
                    · intro fa fw hx hs hb
                      obtain ⟨_, s134, rfl⟩ := hs 18 134 (by kernel_rfl) (by kernel_rfl)
                      obtain ⟨_, s144, rfl⟩ := hs 28 144 (by kernel_rfl) (by kernel_rfl)
                      refine .inl ⟨wanted_free rfl, fun K hK => ?_⟩
                      clear hs hb hx
                      go_simp
                      exact hK _ _ rfl (Ext.refl _)
                    · intro fa fw hx hs hb
                      obtain ⟨_, s145, rfl⟩ := hs 29 145 (by kernel_rfl) (by kernel_rfl)
                      refine .inl ⟨wanted_free rfl, fun K hK => ?_⟩
                      clear hs hb hx
                      go_simp
                      exact hK _ _ rfl (Ext.refl _)
                  case rest =>
                    intro w7 hxw7
                    rintro _ rfl
                    rintro _ rfl
                    rintro _ rfl
                    rintro _ rfl
                    rintro _ rfl
                    rintro _ rfl
                    rintro _ rfl
                    rintro _ rfl
                    rintro _ rfl
                    rintro _ rfl
                    rintro _ rfl
                    rintro _ rfl
                    rintro _ rfl
                    rintro _ rfl
                    rintro _ rfl
                    rintro _ rfl
                    rintro _ rfl
                    rintro _ rfl
                    rintro _ rfl
                    rintro _ rfl
                    rintro _ rfl
                    rintro _ rfl
                    rintro _ rfl
                    rintro _ rfl
                    rintro _ rfl
                    rintro _ rfl
                    rintro _ rfl
                    rintro _ rfl
                    rintro _ rfl
                    rintro _ rfl
                    rintro _ rfl
                    simp only [putAll, List.take, Act.put, List.setIfInBounds_toArray, List.set_cons_zero, List.set_cons_succ]
                    refine wpAny_done (by kernel_rfl) ?_ _
                    go_wp2
                    go_ret
                    exact ⟨rfl, HX.out.trans (X1.out.trans (X4.out.trans hxw7))⟩
              · go_wp2_with fail
                refine wp_flow3 31 0 [isV (.bool true), isV (.bool true), isV (.slice (some ⟨bY, oY, none⟩) gn cy), isV (.int .i64 j), isV (.pointer (some ⟨bY, oY + j, none⟩)), isV (.bool true), isV (.slice (some ⟨bB, oB, none⟩) gn cb), isV (.int .i64 j), isV (.pointer (some ⟨bB, oB + j, none⟩)), isV (.bool true), isV (.bool true), isV undef, isV undef, isV undef, isV undef, isV (.bool true), isV (.bool true), isV (.bool true), isV (.bool true), isV (.slice (some ⟨bB, oB, none⟩) gn cb), isV (.int .i64 g), isV (.pointer (some ⟨bB, oB + g, none⟩)), isV (.bool true), isV (.bool false), isV (.bool false), isV (.slice (some ⟨bB, oB, none⟩) gn cb), isV (.slice (some ⟨bY, oY, none⟩) gn cy), isV (.bool true), isV (.bool true), isV (.bool true), isV (.bool true)] (by kernel_rfl) rfl rfl (by kernel_rfl) (by kernel_rfl) ⟨isV_mono, isV_mono, isV_mono, isV_mono, isV_mono, isV_mono, isV_mono, isV_mono, isV_mono, isV_mono, isV_mono, isV_mono, isV_mono, isV_mono, isV_mono, isV_mono, isV_mono, isV_mono, isV_mono, isV_mono, isV_mono, isV_mono, isV_mono, isV_mono, isV_mono, isV_mono, isV_mono, isV_mono, isV_mono, isV_mono, isV_mono, trivial⟩ ?each ?rest
                case each =>
                  refine .cons ?_ (.cons ?_ (.cons ?_ (.cons ?_ (.cons ?_ (.cons ?_ (.cons ?_ (.cons ?_ (.cons ?_ (.cons ?_ (.cons ?_ (.cons ?_ (.cons ?_ (.cons ?_ (.cons ?_ (.cons ?_ (.cons ?_ (.cons ?_ (.cons ?_ (.cons ?_ (.cons ?_ (.cons ?_ (.cons ?_ (.cons ?_ (.cons ?_ (.cons ?_ (.cons ?_ (.cons ?_ (.cons ?_ (.cons ?_ (.cons ?_ (.nil)))))))))))))))))))))))))))))))
                  · intro fa fw hx hs hb
                    refine .inl ⟨wanted_free rfl, fun K hK => ?_⟩
                    clear hs hb
                    go_simp
                    refine (netBegun_any fw).mono ?_
                    rintro e w' ⟨rfl, xq⟩
                    exact hK _ _ rfl xq
                  · intro fa fw hx hs hb
                    obtain ⟨_, s116, rfl⟩ := hs 0 116 (by kernel_rfl) (by kernel_rfl)
                    refine .inl ⟨wanted_free rfl, fun K hK => ?_⟩
                    clear hs hb hx
                    go_simp
                    exact hK _ _ rfl (Ext.refl _)
                  · intro fa fw hx hs hb
                    obtain ⟨_, s117, rfl⟩ := hs 1 117 (by kernel_rfl) (by kernel_rfl)
                    have s13 : fa.tmps[(13 : Nat)]? = some (.slice (some ⟨bY, oY, none⟩) gn cy) := (hb 13 (by kernel_rfl)).trans (by rfl)
                    refine .inl ⟨wanted_yes 1 true 117 rfl (by kernel_rfl) s117, fun K hK => ?_⟩
                    clear hs hb hx
                    go_simp
                    exact hK _ _ rfl (Ext.refl _)
                  · intro fa fw hx hs hb
                    obtain ⟨_, s117, rfl⟩ := hs 1 117 (by kernel_rfl) (by kernel_rfl)
                    have s17 : fa.tmps[(17 : Nat)]? = some (.int .i64 j) := (hb 17 (by kernel_rfl)).trans (by rfl)
                    refine .inl ⟨wanted_yes 1 true 117 rfl (by kernel_rfl) s117, fun K hK => ?_⟩
                    clear hs hb hx
                    go_simp
                    exact hK _ _ rfl (Ext.refl _)
                  · intro fa fw hx hs hb
                    obtain ⟨_, s117, rfl⟩ := hs 1 117 (by kernel_rfl) (by kernel_rfl)
                    obtain ⟨_, s118, rfl⟩ := hs 2 118 (by kernel_rfl) (by kernel_rfl)
                    obtain ⟨_, s119, rfl⟩ := hs 3 119 (by kernel_rfl) (by kernel_rfl)
                    refine .inl ⟨wanted_yes 1 true 117 rfl (by kernel_rfl) s117, fun K hK => ?_⟩
                    clear hs hb hx
                    go_simp
                    exact hK _ _ rfl (Ext.refl _)
                  · intro fa fw hx hs hb
                    obtain ⟨_, s117, rfl⟩ := hs 1 117 (by kernel_rfl) (by kernel_rfl)
                    obtain ⟨_, s120, rfl⟩ := hs 4 120 (by kernel_rfl) (by kernel_rfl)
                    have c0 := hx.keeps _ _ CYJ.out
                    refine .inl ⟨wanted_yes 1 true 117 rfl (by kernel_rfl) s117, fun K hK => ?_⟩
                    clear hs hb hx
                    go_simp
                    exact hK _ _ rfl (Ext.refl _)
                  · intro fa fw hx hs hb
                    obtain ⟨_, s117, rfl⟩ := hs 1 117 (by kernel_rfl) (by kernel_rfl)
                    have s9 : fa.tmps[(9 : Nat)]? = some (.slice (some ⟨bB, oB, none⟩) gn cb) := (hb 9 (by kernel_rfl)).trans (by rfl)
                    refine .inl ⟨wanted_yes 1 true 117 rfl (by kernel_rfl) s117, fun K hK => ?_⟩
                    clear hs hb hx
                    go_simp
                    exact hK _ _ rfl (Ext.refl _)
                  · intro fa fw hx hs hb
                    obtain ⟨_, s117, rfl⟩ := hs 1 117 (by kernel_rfl) (by kernel_rfl)
                    have s17 : fa.tmps[(17 : Nat)]? = some (.int .i64 j) := (hb 17 (by kernel_rfl)).trans (by rfl)
                    refine .inl ⟨wanted_yes 1 true 117 rfl (by kernel_rfl) s117, fun K hK => ?_⟩
                    clear hs hb hx
                    go_simp
                    exact hK _ _ rfl (Ext.refl _)
                  · intro fa fw hx hs hb
                    obtain ⟨_, s117, rfl⟩ := hs 1 117 (by kernel_rfl) (by kernel_rfl)
                    obtain ⟨_, s122, rfl⟩ := hs 6 122 (by kernel_rfl) (by kernel_rfl)
                    obtain ⟨_, s123, rfl⟩ := hs 7 123 (by kernel_rfl) (by kernel_rfl)
                    refine .inl ⟨wanted_yes 1 true 117 rfl (by kernel_rfl) s117, fun K hK => ?_⟩
                    clear hs hb hx
                    go_simp
                    exact hK _ _ rfl (Ext.refl _)
                  · intro fa fw hx hs hb
                    obtain ⟨_, s117, rfl⟩ := hs 1 117 (by kernel_rfl) (by kernel_rfl)
                    obtain ⟨_, s124, rfl⟩ := hs 8 124 (by kernel_rfl) (by kernel_rfl)
                    have c0 := hx.keeps _ _ CXJ.out
                    refine .inl ⟨wanted_yes 1 true 117 rfl (by kernel_rfl) s117, fun K hK => ?_⟩
                    clear hs hb hx
                    go_simp
                    exact hK _ _ rfl (Ext.refl _)
                  · intro fa fw hx hs hb
                    obtain ⟨_, s117, rfl⟩ := hs 1 117 (by kernel_rfl) (by kernel_rfl)
                    obtain ⟨_, s125, rfl⟩ := hs 9 125 (by kernel_rfl) (by kernel_rfl)
                    refine .inl ⟨wanted_yes 1 true 117 rfl (by kernel_rfl) s117, fun K hK => ?_⟩
                    clear hs hb hx
                    go_simp
                    exact hK _ _ rfl (Ext.refl _)
                  · intro fa fw hx hs hb
                    obtain ⟨_, s126, rfl⟩ := hs 10 126 (by kernel_rfl) (by kernel_rfl)
                    exact .inr ⟨wanted_no 10 false 126 rfl (by kernel_rfl) s126, rfl⟩
                  · intro fa fw hx hs hb
                    obtain ⟨_, s126, rfl⟩ := hs 10 126 (by kernel_rfl) (by kernel_rfl)
                    exact .inr ⟨wanted_no 10 false 126 rfl (by kernel_rfl) s126, rfl⟩
                  · intro fa fw hx hs hb
                    obtain ⟨_, s126, rfl⟩ := hs 10 126 (by kernel_rfl) (by kernel_rfl)
                    exact .inr ⟨wanted_no 10 false 126 rfl (by kernel_rfl) s126, rfl⟩
                  · intro fa fw hx hs hb
                    obtain ⟨_, s126, rfl⟩ := hs 10 126 (by kernel_rfl) (by kernel_rfl)
                    exact .inr ⟨wanted_no 10 false 126 rfl (by kernel_rfl) s126, rfl⟩
                  · intro fa fw hx hs hb
                    obtain ⟨_, s117, rfl⟩ := hs 1 117 (by kernel_rfl) (by kernel_rfl)
                    obtain ⟨_, s126, rfl⟩ := hs 10 126 (by kernel_rfl) (by kernel_rfl)
                    obtain ⟨_, s130, rfl⟩ := hs 14 130 (by kernel_rfl) (by kernel_rfl)
                    refine .inl ⟨wanted_yes 1 true 117 rfl (by kernel_rfl) s117, fun K hK => ?_⟩
                    clear hs hb hx
                    go_simp
                    exact hK _ _ rfl (Ext.refl _)
                  · intro fa fw hx hs hb
                    obtain ⟨_, s117, rfl⟩ := hs 1 117 (by kernel_rfl) (by kernel_rfl)
                    obtain ⟨_, s121, rfl⟩ := hs 5 121 (by kernel_rfl) (by kernel_rfl)
                    obtain ⟨_, s131, rfl⟩ := hs 15 131 (by kernel_rfl) (by kernel_rfl)
                    refine .inl ⟨wanted_yes 1 true 117 rfl (by kernel_rfl) s117, fun K hK => ?_⟩
                    clear hs hb hx
                    go_simp
                    exact hK _ _ rfl (Ext.refl _)
                  · intro fa fw hx hs hb
                    obtain ⟨_, s117, rfl⟩ := hs 1 117 (by kernel_rfl) (by kernel_rfl)
                    obtain ⟨_, s132, rfl⟩ := hs 16 132 (by kernel_rfl) (by kernel_rfl)
                    refine .inl ⟨wanted_free rfl, fun K hK => ?_⟩
                    clear hs hb hx
                    go_simp
                    exact hK _ _ rfl (Ext.refl _)
                  · intro fa fw hx hs hb
                    obtain ⟨_, s133, rfl⟩ := hs 17 133 (by kernel_rfl) (by kernel_rfl)
                    refine .inl ⟨wanted_free rfl, fun K hK => ?_⟩
                    clear hs hb hx
                    go_simp
                    exact hK _ _ rfl (Ext.refl _)
                  · intro fa fw hx hs hb
                    obtain ⟨_, s134, rfl⟩ := hs 18 134 (by kernel_rfl) (by kernel_rfl)
                    have s9 : fa.tmps[(9 : Nat)]? = some (.slice (some ⟨bB, oB, none⟩) gn cb) := (hb 9 (by kernel_rfl)).trans (by rfl)
                    refine .inl ⟨wanted_yes 18 true 134 rfl (by kernel_rfl) s134, fun K hK => ?_⟩
                    clear hs hb hx
                    go_simp
                    exact hK _ _ rfl (Ext.refl _)
                  · intro fa fw hx hs hb
                    obtain ⟨_, s134, rfl⟩ := hs 18 134 (by kernel_rfl) (by kernel_rfl)
                    have s11 : fa.tmps[(11 : Nat)]? = some (.int .i64 g) := (hb 11 (by kernel_rfl)).trans (by rfl)
                    refine .inl ⟨wanted_yes 18 true 134 rfl (by kernel_rfl) s134, fun K hK => ?_⟩
                    clear hs hb hx
                    go_simp
                    exact hK _ _ rfl (Ext.refl _)
                  · intro fa fw hx hs hb
                    obtain ⟨_, s134, rfl⟩ := hs 18 134 (by kernel_rfl) (by kernel_rfl)
                    obtain ⟨_, s135, rfl⟩ := hs 19 135 (by kernel_rfl) (by kernel_rfl)
                    obtain ⟨_, s136, rfl⟩ := hs 20 136 (by kernel_rfl) (by kernel_rfl)
                    refine .inl ⟨wanted_yes 18 true 134 rfl (by kernel_rfl) s134, fun K hK => ?_⟩
                    clear hs hb hx
                    go_simp
                    exact hK _ _ rfl (Ext.refl _)
                  · intro fa fw hx hs hb
                    obtain ⟨_, s134, rfl⟩ := hs 18 134 (by kernel_rfl) (by kernel_rfl)
                    obtain ⟨_, s137, rfl⟩ := hs 21 137 (by kernel_rfl) (by kernel_rfl)
                    have c0 := hx.keeps _ _ CXG2.out
                    refine .inl ⟨wanted_yes 18 true 134 rfl (by kernel_rfl) s134, fun K hK => ?_⟩
                    clear hs hb hx
                    go_simp
                    exact hK _ _ rfl (Ext.refl _)
                  · intro fa fw hx hs hb
                    obtain ⟨_, s134, rfl⟩ := hs 18 134 (by kernel_rfl) (by kernel_rfl)
                    obtain ⟨_, s138, rfl⟩ := hs 22 138 (by kernel_rfl) (by kernel_rfl)
                    refine .inl ⟨wanted_yes 18 true 134 rfl (by kernel_rfl) s134, fun K hK => ?_⟩
                    clear hs hb hx
                    go_simp
                    exact hK _ _ rfl (Ext.refl _)
                  · intro fa fw hx hs hb
                    obtain ⟨_, s134, rfl⟩ := hs 18 134 (by kernel_rfl) (by kernel_rfl)
                    obtain ⟨_, s139, rfl⟩ := hs 23 139 (by kernel_rfl) (by kernel_rfl)
                    refine .inl ⟨wanted_yes 18 true 134 rfl (by kernel_rfl) s134, fun K hK => ?_⟩
                    clear hs hb hx
                    go_simp
                    exact hK _ _ rfl (Ext.refl _)
                  · intro fa fw hx hs hb
                    obtain ⟨_, s140, rfl⟩ := hs 24 140 (by kernel_rfl) (by kernel_rfl)
                    have s9 : fa.tmps[(9 : Nat)]? = some (.slice (some ⟨bB, oB, none⟩) gn cb) := (hb 9 (by kernel_rfl)).trans (by rfl)
                    refine .inl ⟨wanted_yes 24 false 140 rfl (by kernel_rfl) s140, fun K hK => ?_⟩
                    clear hs hb hx
                    go_simp
                    exact hK _ _ rfl (Ext.refl _)
                  · intro fa fw hx hs hb
                    obtain ⟨_, s140, rfl⟩ := hs 24 140 (by kernel_rfl) (by kernel_rfl)
                    have s13 : fa.tmps[(13 : Nat)]? = some (.slice (some ⟨bY, oY, none⟩) gn cy) := (hb 13 (by kernel_rfl)).trans (by rfl)
                    refine .inl ⟨wanted_yes 24 false 140 rfl (by kernel_rfl) s140, fun K hK => ?_⟩
                    clear hs hb hx
                    go_simp
                    exact hK _ _ rfl (Ext.refl _)
                  · intro fa fw hx hs hb
                    obtain ⟨_, s140, rfl⟩ := hs 24 140 (by kernel_rfl) (by kernel_rfl)
                    obtain ⟨_, s141, rfl⟩ := hs 25 141 (by kernel_rfl) (by kernel_rfl)
                    obtain ⟨_, s142, rfl⟩ := hs 26 142 (by kernel_rfl) (by kernel_rfl)
                    refine .inl ⟨wanted_yes 24 false 140 rfl (by kernel_rfl) s140, fun K hK => ?_⟩
                    clear hs hb
                    go_simp
                    refine (sameBools_any (some ⟨bB, oB, none⟩) (some ⟨bY, oY, none⟩) gn gn cb cy X Y fw (SX5.out.keep hx.keeps) (SY5.out.keep hx.keeps) GM.out GM.out).mono ?_
                    rintro e w' ⟨rfl, mq, rfl⟩
                    rw [decide_eq_true (HSA.out HXV.out)]
                    exact hK _ _ rfl ((Ext.refl fw).drewN mq)
                  · intro fa fw hx hs hb
                    obtain ⟨_, s134, rfl⟩ := hs 18 134 (by kernel_rfl) (by kernel_rfl)
                    obtain ⟨_, s140, rfl⟩ := hs 24 140 (by kernel_rfl) (by kernel_rfl)
                    obtain ⟨_, s143, rfl⟩ := hs 27 143 (by kernel_rfl) (by kernel_rfl)
                    refine .inl ⟨wanted_yes 18 true 134 rfl (by kernel_rfl) s134, fun K hK => ?_⟩
                    clear hs hb hx
                    go_simp
                    exact hK _ _ rfl (Ext.refl _)
                  · intro fa fw hx hs hb
                    obtain ⟨_, s134, rfl⟩ := hs 18 134 (by kernel_rfl) (by kernel_rfl)
                    obtain ⟨_, s144, rfl⟩ := hs 28 144 (by kernel_rfl) (by kernel_rfl)
                    refine .inl ⟨wanted_free rfl, fun K hK => ?_⟩
                    clear hs hb hx
                    go_simp
                    exact hK _ _ rfl (Ext.refl _)
                  · intro fa fw hx hs hb
                    obtain ⟨_, s145, rfl⟩ := hs 29 145 (by kernel_rfl) (by kernel_rfl)
                    refine .inl ⟨wanted_free rfl, fun K hK => ?_⟩
                    clear hs hb hx
                    go_simp
                    exact hK _ _ rfl (Ext.refl _)
                case rest =>
                  intro w7 hxw7
                  rintro _ rfl
                  rintro _ rfl
                  rintro _ rfl
                  rintro _ rfl
                  rintro _ rfl
                  rintro _ rfl
                  rintro _ rfl
                  rintro _ rfl
                  rintro _ rfl
                  rintro _ rfl
                  rintro _ rfl
                  rintro _ rfl
                  rintro _ rfl
                  rintro _ rfl
                  rintro _ rfl
                  rintro _ rfl
                  rintro _ rfl
                  rintro _ rfl
                  rintro _ rfl
                  rintro _ rfl
                  rintro _ rfl
                  rintro _ rfl
                  rintro _ rfl
                  rintro _ rfl
                  rintro _ rfl
                  rintro _ rfl
                  rintro _ rfl
                  rintro _ rfl
                  rintro _ rfl
                  rintro _ rfl
                  rintro _ rfl
                  simp only [putAll, List.take, Act.put, List.setIfInBounds_toArray, List.set_cons_zero, List.set_cons_succ]
                  refine wpAny_done (by kernel_rfl) ?_ _
                  go_wp2
                  go_ret
                  exact ⟨rfl, HX.out.trans (X1.out.trans (X4.out.trans hxw7))⟩
  · have hnz : (needsE N l != 0) = true := by simpa using h0
    generalize hq : needsE N l = q at *
    have HE := Lib.hid hq; clear hq h0
    go_enter Try.func3, Try.ntmps3
    go_wp2_with fail
    rw [← HW.out]
    refine (netNeeds_err i GA gn gc RA rn rc OA on oc N A n c l W HN.out HL.out (by have := HNM.out; unfold maxLen; omega) q HE.out hnz).mono ?_; rintro e' w1 ⟨rfl, x1⟩
    have X1 := Lib.hid x1; clear x1
    go_wp2_with fail
    refine (netBegun_any w1).mono ?_; rintro e' w2 ⟨rfl, x2⟩
    go_wp2
    go_ret
    exact ⟨rfl, HX.out.trans (X1.out.trans x2)⟩
end
end Go.Proofs.Ytjagbnaacfhokaa

