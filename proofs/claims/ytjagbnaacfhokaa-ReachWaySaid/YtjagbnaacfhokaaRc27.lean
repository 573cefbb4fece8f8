/- The bodies of ReachTrue and ReachWay, from the contracts. -/
import Derived.Test.YtjagbnaacfhokaaRc26
namespace Go.Proofs.Ytjagbnaacfhokaa
set_option linter.unusedVariables false
set_option linter.unusedSimpArgs false
open Go.RowKit

theorem timesM_range {l : List Int} {m : Nat} (h : timesM l m = 0) : l.length ≤ 60 ∧ ∀ x ∈ l, 0 ≤ x ∧ x < (2 ^ m : Nat) := by
  unfold timesM at h
  split at h
  · cases h
  rename_i h1
  cases hb : l.any (badTime m) with
  | true => rw [hb] at h; simp at h
  | false =>
    refine ⟨by omega, fun x hx => ?_⟩
    have := List.any_eq_false.1 hb x hx
    simp only [badTime, Bool.or_eq_true, decide_eq_true_eq, not_or] at this
    have hp : ((2 ^ m : Nat) : Int) = (2 : Int) ^ m := by rw [Int.natCast_pow]; rfl
    rw [hp]
    omega
theorem timesM_mk {l : List Int} {m : Nat} (h : l.length ≤ 60) (hx : ∀ x ∈ l, 0 ≤ x ∧ x < (2 ^ m : Nat)) : timesM l m = 0 := by
  unfold timesM
  rw [if_neg (by omega), if_neg ?_]
  intro h
  obtain ⟨x, h1, h2⟩ := List.any_eq_true.1 h
  have := hx x h1
  have hp : ((2 ^ m : Nat) : Int) = (2 : Int) ^ m := by rw [Int.natCast_pow]; rfl
  rw [hp] at this
  simp only [badTime, Bool.or_eq_true, decide_eq_true_eq] at h2
  omega
theorem statesE_ok {N : NetM} (h : statesE N = 0) : checkN N = 0 ∧ ∃ ps, reachM N = .ok ps ∧ statesV N = ps.map (·.1) := by
  unfold statesE at h
  by_cases h1 : checkN N = 0
  · rw [if_neg (by simp [h1])] at h
    refine ⟨h1, ?_⟩
    cases hr : reachM N with
    | bad w => rw [hr] at h; cases h
    | many => rw [hr] at h; cases h
    | ok ps => exact ⟨ps, rfl, by unfold statesV; rw [if_neg (by simp [h1]), hr]⟩
  · rw [if_pos h1] at h; exact absurd h h1
theorem run_in {N : NetM} {ps : List Place} (hr : reachM N = .ok ps) {l : List Int} (ht : timesM l N.ins.toNat = 0) : ∃ rows e, runFrom N (firstM N) l = some (rows, e) ∧ e ∈ ps.map (·.1) := by
  obtain ⟨h1, ⟨r, h2⟩, h3⟩ := reach_ok hr
  exact run_reached h3 l (firstM N) (by rw [h2]; simp) (timesM_range ht).2
theorem runE_not6 {N : NetM} {ps : List Place} (hc : checkN N = 0) (hr : reachM N = .ok ps) (l : List Int) : runE N l ≠ 6 := by
  unfold runE
  rw [if_neg (by simp [hc])]
  by_cases ht : timesM l N.ins.toNat = 0
  · obtain ⟨rows, e, h1, -⟩ := run_in hr ht
    rw [if_neg (by simp [ht]), h1]; simp
  · rw [if_pos ht]
    unfold timesM
    split
    · decide
    · split <;> decide
theorem runV_in {N : NetM} {ps : List Place} (hr : reachM N = .ok ps) {l : List Int} (h : runE N l = 0) : (runV N l).2 ∈ ps.map (·.1) := by
  obtain ⟨h1, h2, q, h3⟩ := runE_ok h
  obtain ⟨rows, e, h4, h5⟩ := run_in hr h2
  unfold runV
  rw [if_pos h, h4]; exact h5
theorem badOk {N : NetM} (h : badE N = 0) (hi : badIs N = false) : checkN N = 0 ∧ ∃ ps, reachM N = .ok ps := by
  unfold badE at h
  by_cases h1 : checkN N = 0
  · rw [if_neg (by simp [h1])] at h
    refine ⟨h1, ?_⟩
    unfold badIs at hi
    rw [if_neg (by simp [h1])] at hi
    cases hr : reachM N with
    | bad w => rw [hr] at hi; cases hi
    | many => rw [hr] at h; cases h
    | ok ps => exact ⟨ps, rfl⟩
  · rw [if_pos h1] at h; exact absurd h h1
theorem badYes {N : NetM} (hi : badIs N = true) : checkN N = 0 ∧ ∃ w x, reachM N = .bad (w ++ [x]) ∧ badW N = w ++ [x] ∧ (w.length + 1 ≤ 60 → runE N (w ++ [x]) = 6 ∧ runE N w = 0) := by
  unfold badIs at hi
  by_cases h1 : checkN N = 0
  · rw [if_neg (by simp [h1])] at hi
    refine ⟨h1, ?_⟩
    cases hr : reachM N with
    | many => rw [hr] at hi; cases hi
    | ok ps => rw [hr] at hi; cases hi
    | bad v =>
      obtain ⟨w, x, rfl, h2, h3, h4⟩ := reach_bad hr
      refine ⟨w, x, rfl, by unfold badW; rw [if_neg (by simp [h1]), hr], fun hl => ⟨?_, ?_⟩⟩
      · unfold runE
        rw [if_neg (by simp [h1]), if_neg (by simp [timesM_mk (by simpa using hl) h4]), h2]; rfl
      · unfold runE
        rw [if_neg (by simp [h1]), if_neg (by simp [timesM_mk (by omega) (fun y hy => h4 y (List.mem_append.2 (.inl hy)))])]
        cases h5 : runFrom N (firstM N) w with
        | none => exact absurd h5 h3
        | some q => rfl
  · rw [if_pos h1] at hi; cases hi
theorem nodup_at {l : List (List Int)} (h : l.Nodup) {a b : Nat} {x y : List Int} (ha : l[a]? = some x) (hb : l[b]? = some y) (hne : a ≠ b) : x ≠ y := by
  intro e
  subst e
  obtain ⟨h1, h2⟩ := List.getElem?_eq_some_iff.1 ha
  obtain ⟨h3, h4⟩ := List.getElem?_eq_some_iff.1 hb
  exact hne ((List.getElem_inj h).1 (h2.trans h4.symm))
/-- Is it told ahead of a place? -/
def amongM (l : List (List Int)) (r : List Int) : Bool := l.any fun x => decide (x = r)
theorem told_next {l : List (List Int)} {k : Nat} {p : List Int} (h : l[k]? = some p) (r : List Int) : amongM (l.take (k + 1)) r = (amongM (l.take k) r || decide (p = r)) := by
  unfold amongM; rw [List.take_add_one, h, List.any_append]; simp
theorem told_mem {l : List (List Int)} {r : List Int} (h : r ∈ l) : amongM l r = true := by
  unfold amongM; rw [List.any_eq_true]; exact ⟨r, h, by simp⟩
section
variable (i : Int) (GA : Option Addr) (gn gc : Nat) (RA : Option Addr) (rn rc : Nat) (OA : Option Addr) (on oc : Nat) (N : NetM) (w : World)
set_option maxRecDepth 100000 in
set_option maxHeartbeats 8000000 in
theorem reachTrue_walk (A : Option Addr) (n c : Nat) (l : List Int) (ci cj : Int) (h : NetC w i GA gn gc RA rn rc OA on oc N) (hl : Sl w A n (l.map I)) (hn : n ≤ maxLen) (hi1 : -9223372036854775808 ≤ ci) (hi2 : ci ≤ 9223372036854775807) (hj1 : -9223372036854775808 ≤ cj) (hj2 : cj ≤ 9223372036854775807) :
    Calls Try.prog 18 #[netV i GA gn gc RA rn rc OA on oc, .slice A n c, I ci, I cj] w fun e w' => e = .returned (.bool true) ∧ Ext w w' := by
  obtain ⟨W, hW⟩ : ∃ W, W = w.alloc (.cells #[I i, .slice GA gn gc, .slice RA rn rc, .slice OA on oc] 26) := ⟨_, rfl⟩
  have hxW : Ext w W := by rw [hW]; exact (Ext.refl _).alloc _
  have hbox : NetBox W w.heap.size i GA gn gc RA rn rc OA on oc := by rw [hW]; exact NetBox.new w i GA gn gc RA rn rc OA on oc _
  have HN := Lib.hid (h.keep hxW.keeps); have HBox := Lib.hid hbox; have HW := Lib.hid hW; have HX := Lib.hid hxW; have HL := Lib.hid (hl.keep hxW.keeps); have HNM := Lib.hid hn
  clear h hW hxW hbox hl hn
  go_enter Try.func18, Try.ntmps18
  go_wp2_with fail
  rw [← HW.out]
  refine (states_any i GA gn gc RA rn rc OA on oc N W HN.out).mono ?_; rintro e w1 ⟨vo, vs, rfl, ho, x1⟩
  generalize hM : statesV N = M at *
  generalize hE : statesE N = E at *
  obtain ⟨n1, hn1⟩ : ∃ n1, n1 = M.length := ⟨_, rfl⟩
  obtain ⟨A1', c1, rfl, m1, m2, hs1⟩ := ho.slice
  rw [← hn1] at hs1 m1
  obtain ⟨q0, q1, q2, q3⟩ := HBox.out.keep x1.keeps
  have S1 := Lib.hid hs1; have X1 := Lib.hid x1; have HM := Lib.hid hM; have HE := Lib.hid hE; have HN1 := Lib.hid hn1; have HMC := Lib.hid (And.intro m1 m2)
  rw [← hn1]
  clear hs1 x1 ho hM hE hn1 m1 m2
  go_wp2_with fail
  refine (run_any i GA gn gc RA rn rc OA on oc N A n c l w1 (HN.out.keep X1.out.keeps) (HL.out.keep X1.out.keeps) HNM.out).mono ?_; rintro e w2 ⟨v1, v2, vs', rfl, ho, hr, x2⟩
  generalize hF : runE N l = F at *
  generalize hR : runV N l = R at *
  obtain ⟨n2, hn2⟩ : ∃ n2, n2 = R.2.length := ⟨_, rfl⟩
  obtain ⟨B1, d1, rfl, m3, m4, hs2⟩ := own_sl hr
  rw [← hn2] at hs2 m3
  rw [← hn2]
  have S1' := Lib.hid (S1.out.keep x2.keeps); have S2 := Lib.hid hs2; have X2 := Lib.hid (X1.out.trans x2); have HF := Lib.hid hF; have HR := Lib.hid hR; have HN2 := Lib.hid hn2; have HMR := Lib.hid (Nat.le_trans m3 m4)
  clear hs2 x2 ho hr hF hR q0 q1 q2 q3 hn2 m3 m4 S1
  by_cases he : E = 0
  · subst he
    obtain ⟨hc, ps, hps, hMs⟩ := statesE_ok HE.out
    rw [HM.out] at hMs
    by_cases hf : F = 0
    · subst hf
      have hin := runV_in hps HF.out
      rw [HR.out, ← hMs] at hin
      obtain ⟨ok, ⟨pr, hpr⟩, -⟩ := reach_ok hps
      have hlen : 0 < n1 ∧ n1 ≤ 64 := by
        rw [HN1.out, hMs, List.length_map]
        exact ⟨by rw [hpr]; simp, ok.few⟩
      have hdis : M.Nodup := by rw [hMs]; exact ok.dis
      have h01 := hlen.1
      have h02 := hlen.2
      obtain ⟨sb, so, hsb⟩ : ∃ sb so, A1' = some ⟨sb, so, none⟩ := by
        obtain ⟨r0, hr0⟩ : ∃ r0, M[0]? = some r0 := ⟨_, List.getElem?_eq_getElem (by rw [← HN1.out]; exact h01)⟩
        obtain ⟨b, off, _, _, e, _⟩ := S1'.out.2 0 r0 hr0
        exact ⟨b, off, e⟩
      subst hsb
      obtain ⟨ra1, ra2⟩ := choose_range ci n1 h01
      obtain ⟨rb1, rb2⟩ := choose_range cj n1 h01
      obtain ⟨a, ha⟩ : ∃ a : Nat, chooseM ci n1 = a := ⟨(chooseM ci n1).toNat, by omega⟩
      obtain ⟨b, hb⟩ : ∃ b : Nat, chooseM cj n1 = b := ⟨(chooseM cj n1).toNat, by omega⟩
      rw [ha] at ra1 ra2
      rw [hb] at rb1 rb2
      have han : a < n1 := by omega
      have hbn : b < n1 := by omega
      have HIN := Lib.hid hin; have HDIS := Lib.hid hdis; have HA := Lib.hid ha; have HB := Lib.hid hb
      have hz0 : ((n1 : Int) == 0) = false := by rw [beq_eq_false_iff_ne]; omega
      have hz1 : decide (64 < (n1 : Int)) = false := decide_eq_false (by omega)
      clear hin ok hpr hlen hdis hps hMs hc ha hb ra1 ra2 rb1 rb2
      go_wp2_with fail
      clear hz0 hz1
      go_loopw [14, 15] (fun s j wr => ∃ (k : Nat), k ≤ n1 ∧ j = .int .i64 k ∧ s = .bool (amongM (M.take k) R.2) ∧ Ext w2 wr) (fun _ j _ => n1 - (intOf j).toNat)
      case atStart => exact ⟨0, Nat.zero_le _, rfl, rfl, Ext.refl _⟩
      case round =>
        obtain ⟨k, hk, rfl, rfl, hext⟩ := hrel
        by_cases hlt : k < n1
        · obtain ⟨y, hy⟩ : ∃ y, M[k]? = some y := ⟨_, List.getElem?_eq_getElem (by rw [← HN1.out]; exact hlt)⟩
          have hsn := told_next hy R.2
          cases hbb : amongM (M.take k) R.2 with
          | true =>
            rw [hbb, Bool.true_or] at hsn
            have HSN := Lib.hid hsn; have HXX := Lib.hid hext
            clear hsn hext hbb hy
            go_wp2
            go_roundw
            case rel => exact ⟨k + 1, by omega, by go_num, by rw [HSN.out], HXX.out⟩
            case measure => simp [intOf]; omega
          | false =>
            rw [hbb, Bool.false_or] at hsn
            obtain ⟨sb', so', Aj, cj', e1, hcj, hsj, k1, k2⟩ := (S1'.out.keep hext.keeps).2 k y hy
            injection e1 with e1; injection e1 with e1 e2; subst e1; subst e2
            obtain ⟨yl, hyl⟩ : ∃ yl, yl = y.length := ⟨_, rfl⟩
            rw [← hyl] at hcj hsj k1
            have HSN := Lib.hid hsn; have HXX := Lib.hid hext; have SJ := Lib.hid hsj; have HYM := Lib.hid (Nat.le_trans k1 k2)
            clear hsn hext hbb hy hsj hyl k1 k2
            go_wp2_with fail
            refine (sameInts_any Aj B1 yl n2 cj' d1 y R.2 wr SJ.out (S2.out.keep HXX.out.keeps) HYM.out HMR.out).mono ?_; rintro e w' ⟨rfl, d, rfl⟩
            go_wp2
            go_roundw
            case rel => exact ⟨k + 1, by omega, by go_num, by rw [HSN.out], HXX.out.drewN d⟩
            case measure => simp [intOf]; omega
        · obtain rfl : k = n1 := by omega
          have htk : M.take k = M := List.take_of_length_le (by rw [HN1.out]; exact Nat.le_refl _)
          rw [htk, told_mem HIN.out]
          obtain ⟨ya, hya⟩ : ∃ y, M[a]? = some y := ⟨_, List.getElem?_eq_getElem (by rw [← HN1.out]; exact han)⟩
          obtain ⟨yb, hyb⟩ : ∃ y, M[b]? = some y := ⟨_, List.getElem?_eq_getElem (by rw [← HN1.out]; exact hbn)⟩
          obtain ⟨w8, hw8⟩ : ∃ q, q = wr := ⟨_, rfl⟩
          subst hw8
          have hs8 := S1'.out.keep hext.keeps
          obtain ⟨sb', so', Xa, xa, e1, hca, hsa, ka1, ka2⟩ := hs8.2 a ya hya
          injection e1 with e1; injection e1 with e1 e2; subst e1; subst e2
          obtain ⟨sb', so', Xb, xb, e1, hcb, hsb, kb1, kb2⟩ := hs8.2 b yb hyb
          injection e1 with e1; injection e1 with e1 e2; subst e1; subst e2
          obtain ⟨la, hla⟩ : ∃ la, la = ya.length := ⟨_, rfl⟩
          obtain ⟨lb, hlb⟩ : ∃ lb, lb = yb.length := ⟨_, rfl⟩
          rw [← hla] at hca hsa ka1
          rw [← hlb] at hcb hsb kb1
          have CA := Lib.hid hca; have CB := Lib.hid hcb; have SA := Lib.hid hsa; have SB := Lib.hid hsb; have KA := Lib.hid (Nat.le_trans ka1 ka2); have KB := Lib.hid (Nat.le_trans kb1 kb2); have X8 := Lib.hid (X2.out.trans hext)
          have HYA := Lib.hid hya; have HYB := Lib.hid hyb
          clear hca hcb hsa hsb ka1 ka2 kb1 kb2 hext htk hs8 hya hyb hla hlb
          go_wp2_with fail
          refine (choose_any ci k w8 h01 (by omega) hi1 hi2).mono ?_; rintro e w' ⟨rfl, rfl⟩; rw [HA.out]
          go_wp2_with fail
          refine (choose_any cj k w8 h01 (by omega) hj1 hj2).mono ?_; rintro e w' ⟨rfl, rfl⟩; rw [HB.out]
          by_cases hab : a = b
          · subst hab
            have hyab : ya = yb := by have := HYA.out; rw [HYB.out] at this; injection this with this; exact this.symm
            have HD : Hid (decide (ya = yb) = true) := decide_eq_true hyab
            clear hyab
            go_wp2_with fail
            refine wp_flow3 20 0 [isV (.bool true), isV (.bool true), isV (.bool true), isV (.bool true), isV (.bool true), isV (.slice (some ⟨sb, so, none⟩) k c1), isV (.int .i64 a), isV (.pointer (some ⟨sb, so + a, none⟩)), isV (.slice Xa la xa), isV (.slice (some ⟨sb, so, none⟩) k c1), isV (.int .i64 a), isV (.pointer (some ⟨sb, so + a, none⟩)), isV (.slice Xb lb xb), isV (.bool true), isV (.int .i64 a), isV (.int .i64 a), isV (.bool true), isV (.bool true), isV (.bool true), isV (.bool true)] (by kernel_rfl) rfl rfl (by kernel_rfl) (by kernel_rfl) ⟨isV_mono, isV_mono, isV_mono, isV_mono, isV_mono, isV_mono, isV_mono, isV_mono, isV_mono, isV_mono, isV_mono, isV_mono, isV_mono, isV_mono, isV_mono, isV_mono, isV_mono, isV_mono, isV_mono, isV_mono, trivial⟩ ?each ?rest
            case each =>
              refine .cons ?_ (.cons ?_ (.cons ?_ (.cons ?_ (.cons ?_ (.cons ?_ (.cons ?_ (.cons ?_ (.cons ?_ (.cons ?_ (.cons ?_ (.cons ?_ (.cons ?_ (.cons ?_ (.cons ?_ (.cons ?_ (.cons ?_ (.cons ?_ (.cons ?_ (.cons ?_ (.nil))))))))))))))))))))
              · intro fa fw hx hs hb
                refine .inl ⟨wanted_free rfl, fun K hK => ?_⟩
                clear hs hb
                go_simp
                refine (reachBegun_any fw).mono ?_
                rintro e w' ⟨rfl, xq⟩
                exact hK _ _ rfl xq
              · intro fa fw hx hs hb
                obtain ⟨_, s71, rfl⟩ := hs 0 71 (by kernel_rfl) (by kernel_rfl)
                refine .inl ⟨wanted_free rfl, fun K hK => ?_⟩
                clear hs hb hx
                go_simp
                exact hK _ _ rfl (Ext.refl _)
              · intro fa fw hx hs hb
                obtain ⟨_, s72, rfl⟩ := hs 1 72 (by kernel_rfl) (by kernel_rfl)
                have s14 : fa.tmps[(14 : Nat)]? = some (.bool true) := (hb 14 (by kernel_rfl)).trans (by rfl)
                refine .inl ⟨wanted_yes 1 true 72 rfl (by kernel_rfl) s72, fun K hK => ?_⟩
                clear hs hb hx
                go_simp
                exact hK _ _ rfl (Ext.refl _)
              · intro fa fw hx hs hb
                obtain ⟨_, s72, rfl⟩ := hs 1 72 (by kernel_rfl) (by kernel_rfl)
                obtain ⟨_, s73, rfl⟩ := hs 2 73 (by kernel_rfl) (by kernel_rfl)
                refine .inl ⟨wanted_free rfl, fun K hK => ?_⟩
                clear hs hb hx
                go_simp
                exact hK _ _ rfl (Ext.refl _)
              · intro fa fw hx hs hb
                obtain ⟨_, s74, rfl⟩ := hs 3 74 (by kernel_rfl) (by kernel_rfl)
                refine .inl ⟨wanted_free rfl, fun K hK => ?_⟩
                clear hs hb hx
                go_simp
                exact hK _ _ rfl (Ext.refl _)
              · intro fa fw hx hs hb
                obtain ⟨_, s75, rfl⟩ := hs 4 75 (by kernel_rfl) (by kernel_rfl)
                have s9 : fa.tmps[(9 : Nat)]? = some (.slice (some ⟨sb, so, none⟩) k c1) := (hb 9 (by kernel_rfl)).trans (by rfl)
                refine .inl ⟨wanted_yes 4 true 75 rfl (by kernel_rfl) s75, fun K hK => ?_⟩
                clear hs hb hx
                go_simp
                exact hK _ _ rfl (Ext.refl _)
              · intro fa fw hx hs hb
                obtain ⟨_, s75, rfl⟩ := hs 4 75 (by kernel_rfl) (by kernel_rfl)
                have s16 : fa.tmps[(16 : Nat)]? = some (.int .i64 a) := (hb 16 (by kernel_rfl)).trans (by rfl)
                refine .inl ⟨wanted_yes 4 true 75 rfl (by kernel_rfl) s75, fun K hK => ?_⟩
                clear hs hb hx
                go_simp
                exact hK _ _ rfl (Ext.refl _)
              · intro fa fw hx hs hb
                obtain ⟨_, s75, rfl⟩ := hs 4 75 (by kernel_rfl) (by kernel_rfl)
                obtain ⟨_, s76, rfl⟩ := hs 5 76 (by kernel_rfl) (by kernel_rfl)
                obtain ⟨_, s77, rfl⟩ := hs 6 77 (by kernel_rfl) (by kernel_rfl)
                refine .inl ⟨wanted_yes 4 true 75 rfl (by kernel_rfl) s75, fun K hK => ?_⟩
                clear hs hb hx
                go_simp
                exact hK _ _ rfl (Ext.refl _)
              · intro fa fw hx hs hb
                obtain ⟨_, s75, rfl⟩ := hs 4 75 (by kernel_rfl) (by kernel_rfl)
                obtain ⟨_, s78, rfl⟩ := hs 7 78 (by kernel_rfl) (by kernel_rfl)
                refine .inl ⟨wanted_yes 4 true 75 rfl (by kernel_rfl) s75, fun K hK => ?_⟩
                clear hs hb
                have c0 := hx.keeps _ _ CA.out
                clear hx
                go_simp
                exact hK _ _ rfl (Ext.refl _)
              · intro fa fw hx hs hb
                obtain ⟨_, s75, rfl⟩ := hs 4 75 (by kernel_rfl) (by kernel_rfl)
                have s9 : fa.tmps[(9 : Nat)]? = some (.slice (some ⟨sb, so, none⟩) k c1) := (hb 9 (by kernel_rfl)).trans (by rfl)
                refine .inl ⟨wanted_yes 4 true 75 rfl (by kernel_rfl) s75, fun K hK => ?_⟩
                clear hs hb hx
                go_simp
                exact hK _ _ rfl (Ext.refl _)
              · intro fa fw hx hs hb
                obtain ⟨_, s75, rfl⟩ := hs 4 75 (by kernel_rfl) (by kernel_rfl)
                have s17 : fa.tmps[(17 : Nat)]? = some (.int .i64 a) := (hb 17 (by kernel_rfl)).trans (by rfl)
                refine .inl ⟨wanted_yes 4 true 75 rfl (by kernel_rfl) s75, fun K hK => ?_⟩
                clear hs hb hx
                go_simp
                exact hK _ _ rfl (Ext.refl _)
              · intro fa fw hx hs hb
                obtain ⟨_, s75, rfl⟩ := hs 4 75 (by kernel_rfl) (by kernel_rfl)
                obtain ⟨_, s80, rfl⟩ := hs 9 80 (by kernel_rfl) (by kernel_rfl)
                obtain ⟨_, s81, rfl⟩ := hs 10 81 (by kernel_rfl) (by kernel_rfl)
                refine .inl ⟨wanted_yes 4 true 75 rfl (by kernel_rfl) s75, fun K hK => ?_⟩
                clear hs hb hx
                go_simp
                exact hK _ _ rfl (Ext.refl _)
              · intro fa fw hx hs hb
                obtain ⟨_, s75, rfl⟩ := hs 4 75 (by kernel_rfl) (by kernel_rfl)
                obtain ⟨_, s82, rfl⟩ := hs 11 82 (by kernel_rfl) (by kernel_rfl)
                refine .inl ⟨wanted_yes 4 true 75 rfl (by kernel_rfl) s75, fun K hK => ?_⟩
                clear hs hb
                have c0 := hx.keeps _ _ CB.out
                clear hx
                go_simp
                exact hK _ _ rfl (Ext.refl _)
              · intro fa fw hx hs hb
                obtain ⟨_, s75, rfl⟩ := hs 4 75 (by kernel_rfl) (by kernel_rfl)
                obtain ⟨_, s79, rfl⟩ := hs 8 79 (by kernel_rfl) (by kernel_rfl)
                obtain ⟨_, s83, rfl⟩ := hs 12 83 (by kernel_rfl) (by kernel_rfl)
                refine .inl ⟨wanted_yes 4 true 75 rfl (by kernel_rfl) s75, fun K hK => ?_⟩
                clear hs hb
                go_simp
                refine (sameInts_any Xa Xb la lb xa xb ya yb fw (SA.out.keep hx.keeps) (SB.out.keep hx.keeps) KA.out KB.out).mono ?_
                rintro e w' ⟨rfl, d, rfl⟩; rw [HD.out]
                exact hK _ _ rfl ((Ext.refl _).drewN d)
              · intro fa fw hx hs hb
                obtain ⟨_, s75, rfl⟩ := hs 4 75 (by kernel_rfl) (by kernel_rfl)
                have s16 : fa.tmps[(16 : Nat)]? = some (.int .i64 a) := (hb 16 (by kernel_rfl)).trans (by rfl)
                refine .inl ⟨wanted_yes 4 true 75 rfl (by kernel_rfl) s75, fun K hK => ?_⟩
                clear hs hb hx
                go_simp
                exact hK _ _ rfl (Ext.refl _)
              · intro fa fw hx hs hb
                obtain ⟨_, s75, rfl⟩ := hs 4 75 (by kernel_rfl) (by kernel_rfl)
                have s17 : fa.tmps[(17 : Nat)]? = some (.int .i64 a) := (hb 17 (by kernel_rfl)).trans (by rfl)
                refine .inl ⟨wanted_yes 4 true 75 rfl (by kernel_rfl) s75, fun K hK => ?_⟩
                clear hs hb hx
                go_simp
                exact hK _ _ rfl (Ext.refl _)
              · intro fa fw hx hs hb
                obtain ⟨_, s75, rfl⟩ := hs 4 75 (by kernel_rfl) (by kernel_rfl)
                obtain ⟨_, s85, rfl⟩ := hs 14 85 (by kernel_rfl) (by kernel_rfl)
                obtain ⟨_, s86, rfl⟩ := hs 15 86 (by kernel_rfl) (by kernel_rfl)
                refine .inl ⟨wanted_yes 4 true 75 rfl (by kernel_rfl) s75, fun K hK => ?_⟩
                clear hs hb
                go_simp
                exact hK _ _ rfl (Ext.refl _)
              · intro fa fw hx hs hb
                obtain ⟨_, s75, rfl⟩ := hs 4 75 (by kernel_rfl) (by kernel_rfl)
                obtain ⟨_, s84, rfl⟩ := hs 13 84 (by kernel_rfl) (by kernel_rfl)
                obtain ⟨_, s87, rfl⟩ := hs 16 87 (by kernel_rfl) (by kernel_rfl)
                refine .inl ⟨wanted_yes 4 true 75 rfl (by kernel_rfl) s75, fun K hK => ?_⟩
                clear hs hb hx
                go_simp
                exact hK _ _ rfl (Ext.refl _)
              · intro fa fw hx hs hb
                obtain ⟨_, s75, rfl⟩ := hs 4 75 (by kernel_rfl) (by kernel_rfl)
                obtain ⟨_, s88, rfl⟩ := hs 17 88 (by kernel_rfl) (by kernel_rfl)
                refine .inl ⟨wanted_free rfl, fun K hK => ?_⟩
                clear hs hb hx
                go_simp
                exact hK _ _ rfl (Ext.refl _)
              · intro fa fw hx hs hb
                obtain ⟨_, s89, rfl⟩ := hs 18 89 (by kernel_rfl) (by kernel_rfl)
                refine .inl ⟨wanted_free rfl, fun K hK => ?_⟩
                clear hs hb hx
                go_simp
                exact hK _ _ rfl (Ext.refl _)
            case rest =>
              intro w9 hxw9
              rintro _ rfl
              rintro _ rfl
              rintro _ rfl
              rintro _ rfl
              rintro _ rfl
              rintro _ rfl
              rintro _ rfl
              rintro _ rfl
              rintro _ rfl
              rintro _ rfl
              rintro _ rfl
              rintro _ rfl
              rintro _ rfl
              rintro _ rfl
              rintro _ rfl
              rintro _ rfl
              rintro _ rfl
              rintro _ rfl
              rintro _ rfl
              rintro _ rfl
              simp only [putAll, List.take, Act.put, List.setIfInBounds_toArray, List.set_cons_zero, List.set_cons_succ]
              refine wpAny_done (by kernel_rfl) ?_ _
              have X9 := Lib.hid (X8.out.trans hxw9)
              clear hxw9
              go_wp2
              go_ret
              exact ⟨by simp, HX.out.trans X9.out⟩
          · have hyab : ya ≠ yb := nodup_at HDIS.out HYA.out HYB.out hab
            have HD : Hid (decide (ya = yb) = false) := decide_eq_false hyab
            have HAB : Hid (((a : Int) == (b : Int)) = false) := by unfold Hid; rw [beq_eq_false_iff_ne]; omega
            clear hyab
            go_wp2_with fail
            refine wp_flow3 20 0 [isV (.bool true), isV (.bool true), isV (.bool true), isV (.bool true), isV (.bool true), isV (.slice (some ⟨sb, so, none⟩) k c1), isV (.int .i64 a), isV (.pointer (some ⟨sb, so + a, none⟩)), isV (.slice Xa la xa), isV (.slice (some ⟨sb, so, none⟩) k c1), isV (.int .i64 b), isV (.pointer (some ⟨sb, so + b, none⟩)), isV (.slice Xb lb xb), isV (.bool false), isV (.int .i64 a), isV (.int .i64 b), isV (.bool false), isV (.bool true), isV (.bool true), isV (.bool true)] (by kernel_rfl) rfl rfl (by kernel_rfl) (by kernel_rfl) ⟨isV_mono, isV_mono, isV_mono, isV_mono, isV_mono, isV_mono, isV_mono, isV_mono, isV_mono, isV_mono, isV_mono, isV_mono, isV_mono, isV_mono, isV_mono, isV_mono, isV_mono, isV_mono, isV_mono, isV_mono, trivial⟩ ?each ?rest
            case each =>
              refine .cons ?_ (.cons ?_ (.cons ?_ (.cons ?_ (.cons ?_ (.cons ?_ (.cons ?_ (.cons ?_ (.cons ?_ (.cons ?_ (.cons ?_ (.cons ?_ (.cons ?_ (.cons ?_ (.cons ?_ (.cons ?_ (.cons ?_ (.cons ?_ (.cons ?_ (.cons ?_ (.nil))))))))))))))))))))
              · intro fa fw hx hs hb
                refine .inl ⟨wanted_free rfl, fun K hK => ?_⟩
                clear hs hb
                go_simp
                refine (reachBegun_any fw).mono ?_
                rintro e w' ⟨rfl, xq⟩
                exact hK _ _ rfl xq
              · intro fa fw hx hs hb
                obtain ⟨_, s71, rfl⟩ := hs 0 71 (by kernel_rfl) (by kernel_rfl)
                refine .inl ⟨wanted_free rfl, fun K hK => ?_⟩
                clear hs hb hx
                go_simp
                exact hK _ _ rfl (Ext.refl _)
              · intro fa fw hx hs hb
                obtain ⟨_, s72, rfl⟩ := hs 1 72 (by kernel_rfl) (by kernel_rfl)
                have s14 : fa.tmps[(14 : Nat)]? = some (.bool true) := (hb 14 (by kernel_rfl)).trans (by rfl)
                refine .inl ⟨wanted_yes 1 true 72 rfl (by kernel_rfl) s72, fun K hK => ?_⟩
                clear hs hb hx
                go_simp
                exact hK _ _ rfl (Ext.refl _)
              · intro fa fw hx hs hb
                obtain ⟨_, s72, rfl⟩ := hs 1 72 (by kernel_rfl) (by kernel_rfl)
                obtain ⟨_, s73, rfl⟩ := hs 2 73 (by kernel_rfl) (by kernel_rfl)
                refine .inl ⟨wanted_free rfl, fun K hK => ?_⟩
                clear hs hb hx
                go_simp
                exact hK _ _ rfl (Ext.refl _)
              · intro fa fw hx hs hb
                obtain ⟨_, s74, rfl⟩ := hs 3 74 (by kernel_rfl) (by kernel_rfl)
                refine .inl ⟨wanted_free rfl, fun K hK => ?_⟩
                clear hs hb hx
                go_simp
                exact hK _ _ rfl (Ext.refl _)
              · intro fa fw hx hs hb
                obtain ⟨_, s75, rfl⟩ := hs 4 75 (by kernel_rfl) (by kernel_rfl)
                have s9 : fa.tmps[(9 : Nat)]? = some (.slice (some ⟨sb, so, none⟩) k c1) := (hb 9 (by kernel_rfl)).trans (by rfl)
                refine .inl ⟨wanted_yes 4 true 75 rfl (by kernel_rfl) s75, fun K hK => ?_⟩
                clear hs hb hx
                go_simp
                exact hK _ _ rfl (Ext.refl _)
              · intro fa fw hx hs hb
                obtain ⟨_, s75, rfl⟩ := hs 4 75 (by kernel_rfl) (by kernel_rfl)
                have s16 : fa.tmps[(16 : Nat)]? = some (.int .i64 a) := (hb 16 (by kernel_rfl)).trans (by rfl)
                refine .inl ⟨wanted_yes 4 true 75 rfl (by kernel_rfl) s75, fun K hK => ?_⟩
                clear hs hb hx
                go_simp
                exact hK _ _ rfl (Ext.refl _)
              · intro fa fw hx hs hb
                obtain ⟨_, s75, rfl⟩ := hs 4 75 (by kernel_rfl) (by kernel_rfl)
                obtain ⟨_, s76, rfl⟩ := hs 5 76 (by kernel_rfl) (by kernel_rfl)
                obtain ⟨_, s77, rfl⟩ := hs 6 77 (by kernel_rfl) (by kernel_rfl)
                refine .inl ⟨wanted_yes 4 true 75 rfl (by kernel_rfl) s75, fun K hK => ?_⟩
                clear hs hb hx
                go_simp
                exact hK _ _ rfl (Ext.refl _)
              · intro fa fw hx hs hb
                obtain ⟨_, s75, rfl⟩ := hs 4 75 (by kernel_rfl) (by kernel_rfl)
                obtain ⟨_, s78, rfl⟩ := hs 7 78 (by kernel_rfl) (by kernel_rfl)
                have c0 := hx.keeps _ _ CA.out
                refine .inl ⟨wanted_yes 4 true 75 rfl (by kernel_rfl) s75, fun K hK => ?_⟩
                clear hs hb hx
                go_simp
                exact hK _ _ rfl (Ext.refl _)
              · intro fa fw hx hs hb
                obtain ⟨_, s75, rfl⟩ := hs 4 75 (by kernel_rfl) (by kernel_rfl)
                have s9 : fa.tmps[(9 : Nat)]? = some (.slice (some ⟨sb, so, none⟩) k c1) := (hb 9 (by kernel_rfl)).trans (by rfl)
                refine .inl ⟨wanted_yes 4 true 75 rfl (by kernel_rfl) s75, fun K hK => ?_⟩
                clear hs hb hx
                go_simp
                exact hK _ _ rfl (Ext.refl _)
              · intro fa fw hx hs hb
                obtain ⟨_, s75, rfl⟩ := hs 4 75 (by kernel_rfl) (by kernel_rfl)
                have s17 : fa.tmps[(17 : Nat)]? = some (.int .i64 b) := (hb 17 (by kernel_rfl)).trans (by rfl)
                refine .inl ⟨wanted_yes 4 true 75 rfl (by kernel_rfl) s75, fun K hK => ?_⟩
                clear hs hb hx
                go_simp
                exact hK _ _ rfl (Ext.refl _)
              · intro fa fw hx hs hb
                obtain ⟨_, s75, rfl⟩ := hs 4 75 (by kernel_rfl) (by kernel_rfl)
                obtain ⟨_, s80, rfl⟩ := hs 9 80 (by kernel_rfl) (by kernel_rfl)
                obtain ⟨_, s81, rfl⟩ := hs 10 81 (by kernel_rfl) (by kernel_rfl)
                refine .inl ⟨wanted_yes 4 true 75 rfl (by kernel_rfl) s75, fun K hK => ?_⟩
                clear hs hb hx
                go_simp
                exact hK _ _ rfl (Ext.refl _)
              · intro fa fw hx hs hb
                obtain ⟨_, s75, rfl⟩ := hs 4 75 (by kernel_rfl) (by kernel_rfl)
                obtain ⟨_, s82, rfl⟩ := hs 11 82 (by kernel_rfl) (by kernel_rfl)
                refine .inl ⟨wanted_yes 4 true 75 rfl (by kernel_rfl) s75, fun K hK => ?_⟩
                clear hs hb
                have c0 := hx.keeps _ _ CB.out
                clear hx
                go_simp
                exact hK _ _ rfl (Ext.refl _)
              · intro fa fw hx hs hb
                obtain ⟨_, s75, rfl⟩ := hs 4 75 (by kernel_rfl) (by kernel_rfl)
                obtain ⟨_, s79, rfl⟩ := hs 8 79 (by kernel_rfl) (by kernel_rfl)
                obtain ⟨_, s83, rfl⟩ := hs 12 83 (by kernel_rfl) (by kernel_rfl)
                refine .inl ⟨wanted_yes 4 true 75 rfl (by kernel_rfl) s75, fun K hK => ?_⟩
                clear hs hb
                go_simp
                refine (sameInts_any Xa Xb la lb xa xb ya yb fw (SA.out.keep hx.keeps) (SB.out.keep hx.keeps) KA.out KB.out).mono ?_
                rintro e w' ⟨rfl, d, rfl⟩; rw [HD.out]
                exact hK _ _ rfl ((Ext.refl _).drewN d)
              · intro fa fw hx hs hb
                obtain ⟨_, s75, rfl⟩ := hs 4 75 (by kernel_rfl) (by kernel_rfl)
                have s16 : fa.tmps[(16 : Nat)]? = some (.int .i64 a) := (hb 16 (by kernel_rfl)).trans (by rfl)
                refine .inl ⟨wanted_yes 4 true 75 rfl (by kernel_rfl) s75, fun K hK => ?_⟩
                clear hs hb hx
                go_simp
                exact hK _ _ rfl (Ext.refl _)
              · intro fa fw hx hs hb
                obtain ⟨_, s75, rfl⟩ := hs 4 75 (by kernel_rfl) (by kernel_rfl)
                have s17 : fa.tmps[(17 : Nat)]? = some (.int .i64 b) := (hb 17 (by kernel_rfl)).trans (by rfl)
                refine .inl ⟨wanted_yes 4 true 75 rfl (by kernel_rfl) s75, fun K hK => ?_⟩
                clear hs hb hx
                go_simp
                exact hK _ _ rfl (Ext.refl _)
              · intro fa fw hx hs hb
                obtain ⟨_, s75, rfl⟩ := hs 4 75 (by kernel_rfl) (by kernel_rfl)
                obtain ⟨_, s85, rfl⟩ := hs 14 85 (by kernel_rfl) (by kernel_rfl)
                obtain ⟨_, s86, rfl⟩ := hs 15 86 (by kernel_rfl) (by kernel_rfl)
                refine .inl ⟨wanted_yes 4 true 75 rfl (by kernel_rfl) s75, fun K hK => ?_⟩
                clear hs hb
                have h0 := HAB.out
                go_simp
                exact hK _ _ rfl (Ext.refl _)
              · intro fa fw hx hs hb
                obtain ⟨_, s75, rfl⟩ := hs 4 75 (by kernel_rfl) (by kernel_rfl)
                obtain ⟨_, s84, rfl⟩ := hs 13 84 (by kernel_rfl) (by kernel_rfl)
                obtain ⟨_, s87, rfl⟩ := hs 16 87 (by kernel_rfl) (by kernel_rfl)
                refine .inl ⟨wanted_yes 4 true 75 rfl (by kernel_rfl) s75, fun K hK => ?_⟩
                clear hs hb hx
                go_simp
                exact hK _ _ rfl (Ext.refl _)
              · intro fa fw hx hs hb
                obtain ⟨_, s75, rfl⟩ := hs 4 75 (by kernel_rfl) (by kernel_rfl)
                obtain ⟨_, s88, rfl⟩ := hs 17 88 (by kernel_rfl) (by kernel_rfl)
                refine .inl ⟨wanted_free rfl, fun K hK => ?_⟩
                clear hs hb hx
                go_simp
                exact hK _ _ rfl (Ext.refl _)
              · intro fa fw hx hs hb
                obtain ⟨_, s89, rfl⟩ := hs 18 89 (by kernel_rfl) (by kernel_rfl)
                refine .inl ⟨wanted_free rfl, fun K hK => ?_⟩
                clear hs hb hx
                go_simp
                exact hK _ _ rfl (Ext.refl _)
            case rest =>
              intro w9 hxw9
              rintro _ rfl
              rintro _ rfl
              rintro _ rfl
              rintro _ rfl
              rintro _ rfl
              rintro _ rfl
              rintro _ rfl
              rintro _ rfl
              rintro _ rfl
              rintro _ rfl
              rintro _ rfl
              rintro _ rfl
              rintro _ rfl
              rintro _ rfl
              rintro _ rfl
              rintro _ rfl
              rintro _ rfl
              rintro _ rfl
              rintro _ rfl
              rintro _ rfl
              simp only [putAll, List.take, Act.put, List.setIfInBounds_toArray, List.set_cons_zero, List.set_cons_succ]
              refine wpAny_done (by kernel_rfl) ?_ _
              have X9 := Lib.hid (X8.out.trans hxw9)
              clear hxw9
              go_wp2
              go_ret
              exact ⟨by simp, HX.out.trans X9.out⟩
    · have h6 := runE_not6 hc hps l
      rw [HF.out] at h6
      have hf' := hf
      clear hps hMs hc
      go_wp2_with fail
      refine (reachBegun_any w2).mono ?_; rintro e w3 ⟨rfl, x3⟩
      have X3 := Lib.hid x3; clear x3
      go_wp2
      go_ret
      exact ⟨by simp [h6], HX.out.trans (X2.out.trans X3.out)⟩
  · go_wp2_with fail
    refine (reachBegun_any w2).mono ?_; rintro e w3 ⟨rfl, x3⟩
    have X3 := Lib.hid x3; clear x3
    go_wp2
    go_ret
    exact ⟨by simp, HX.out.trans (X2.out.trans X3.out)⟩
set_option maxRecDepth 100000 in
set_option maxHeartbeats 8000000 in
theorem reachWay_walk (A : Option Addr) (n c : Nat) (l : List Int) (h : NetC w i GA gn gc RA rn rc OA on oc N) (hl : Sl w A n (l.map I)) (hn : n ≤ maxLen) :
    Calls Try.prog 19 #[netV i GA gn gc RA rn rc OA on oc, .slice A n c] w fun e w' => e = .returned (.bool true) ∧ Ext w w' := by
  obtain ⟨W, hW⟩ : ∃ W, W = w.alloc (.cells #[I i, .slice GA gn gc, .slice RA rn rc, .slice OA on oc] 26) := ⟨_, rfl⟩
  have hxW : Ext w W := by rw [hW]; exact (Ext.refl _).alloc _
  have hbox : NetBox W w.heap.size i GA gn gc RA rn rc OA on oc := by rw [hW]; exact NetBox.new w i GA gn gc RA rn rc OA on oc _
  have HN := Lib.hid (h.keep hxW.keeps); have HBox := Lib.hid hbox; have HW := Lib.hid hW; have HX := Lib.hid hxW; have HL := Lib.hid (hl.keep hxW.keeps); have HNM := Lib.hid hn
  clear h hW hxW hbox hl hn
  go_enter Try.func19, Try.ntmps19
  go_wp2_with fail
  rw [← HW.out]
  refine (bad_any i GA gn gc RA rn rc OA on oc N W HN.out).mono ?_; rintro e w1 ⟨vo, rfl, ho, x1⟩
  generalize hM : badW N = M at *
  generalize hE : badE N = E at *
  generalize hB : badIs N = B at *
  obtain ⟨n1, hn1⟩ : ∃ n1, n1 = M.length := ⟨_, rfl⟩
  obtain ⟨A1', c1, rfl, m1, m2, hs1⟩ := own_sl ho
  rw [← hn1] at hs1 m1
  obtain ⟨q0, q1, q2, q3⟩ := HBox.out.keep x1.keeps
  have S1 := Lib.hid hs1; have X1 := Lib.hid x1; have HM := Lib.hid hM; have HE := Lib.hid hE; have HB := Lib.hid hB; have HN1 := Lib.hid hn1; have HMC := Lib.hid (And.intro m1 m2)
  rw [← hn1]
  clear hs1 x1 ho hM hE hB hn1 m1 m2
  go_wp2_with fail
  refine (run_any i GA gn gc RA rn rc OA on oc N A n c l w1 (HN.out.keep X1.out.keeps) (HL.out.keep X1.out.keeps) HNM.out).mono ?_; rintro e w2 ⟨v1, v2, vs', rfl, ho, hr, x2⟩
  generalize hF : runE N l = F at *
  have S1' := Lib.hid (S1.out.keep x2.keeps); have X2 := Lib.hid (X1.out.trans x2); have HF := Lib.hid hF
  clear x2 ho hr hF q0 q1 q2 q3 S1
  by_cases he : E = 0
  · subst he
    cases B with
    | false =>
      obtain ⟨hc, ps, hps⟩ := badOk HE.out HB.out
      have h6 := runE_not6 hc hps l
      rw [HF.out] at h6
      clear hc hps
      go_wp2_with fail
      refine (reachBegun_any w2).mono ?_; rintro e w3 ⟨rfl, x3⟩
      have X3 := Lib.hid x3; clear x3
      go_wp2
      go_ret
      exact ⟨by simp [h6], HX.out.trans (X2.out.trans X3.out)⟩
    | true =>
      obtain ⟨hc, wv, x, -, hMw, hruns⟩ := badYes HB.out
      rw [HM.out] at hMw
      obtain ⟨wl, hwl⟩ : ∃ wl, wl = wv.length := ⟨_, rfl⟩
      have hn1 : n1 = wl + 1 := by rw [HN1.out, hMw, List.length_append, hwl]; rfl
      have HWL := Lib.hid hwl; have HMW := Lib.hid hMw; have HRUN := Lib.hid hruns
      clear hc hMw hwl hruns
      subst hn1
      by_cases h60 : wl + 1 ≤ 60
      · have hr := HRUN.out (by rw [← HWL.out]; exact h60)
        obtain ⟨sb, so, hsb⟩ : ∃ sb so, A1' = some ⟨sb, so, none⟩ := by
          obtain ⟨b, off, y, e, _⟩ := S1'.out.at_ (Nat.succ_pos wl)
          exact ⟨b, off, e⟩
        subst hsb
        have hz0 : (((wl + 1 : Nat) : Int) == 0) = false := by rw [beq_eq_false_iff_ne]; omega
        have hz1 : decide (60 < ((wl + 1 : Nat) : Int)) = false := decide_eq_false (by omega)
        have hz2 : (((wl : Int) + 1) == 0) = false := by rw [beq_eq_false_iff_ne]; omega
        have hz3 : decide (60 < ((wl : Int) + 1)) = false := decide_eq_false (by omega)
        have HR6 := Lib.hid hr.1; have HR0 := Lib.hid hr.2
        clear hr
        obtain ⟨q0, q1, q2, q3⟩ := HBox.out.keep X2.out.keeps
        go_wp2_with fail
        clear hz0 hz1 hz2 hz3
        refine (run_any i GA gn gc RA rn rc OA on oc N _ (wl + 1) c1 (wv ++ [x]) w2 (HN.out.keep X2.out.keeps) (by rw [← HMW.out]; exact S1'.out) (Nat.le_trans HMC.out.1 HMC.out.2)).mono ?_; rintro e w3 ⟨u1, u2, us', rfl, ho, hr, x3⟩
        rw [HR6.out]
        have X3 := Lib.hid (X2.out.trans x3)
        have hbx := HBox.out.keep X3.out.keeps
        have B0 : Hid (w3.cell? ⟨w.heap.size, 0, none⟩ = some (I i)) := hbx.1
        have B1 : Hid (w3.cell? ⟨w.heap.size, 1, none⟩ = some (.slice GA gn gc)) := hbx.2.1
        have B2 : Hid (w3.cell? ⟨w.heap.size, 2, none⟩ = some (.slice RA rn rc)) := hbx.2.2.1
        have B3 : Hid (w3.cell? ⟨w.heap.size, 3, none⟩ = some (.slice OA on oc)) := hbx.2.2.2
        have hsp : Sl w3 (some ⟨sb, so, none⟩) wl (wv.map I) := by
          have := S1'.out.keep x3.keeps
          rw [HMW.out] at this
          refine ⟨by rw [List.length_map, ← HWL.out], fun k u hu => this.2 k u ?_⟩
          rw [List.map_append, List.getElem?_append_left (List.getElem?_eq_some_iff.1 hu).1]; exact hu
        have SP := Lib.hid hsp
        have N3 := Lib.hid (HN.out.keep X3.out.keeps)
        have HC1 : Hid (wl + 1 ≤ c1 ∧ c1 ≤ maxLen) := HMC.out
        have H60 := Lib.hid h60
        have HLM : Hid (wl ≤ maxLen) := by unfold Hid maxLen; omega
        clear q0 q1 q2 q3 x3 ho hr hbx hsp h60
        go_wp2_with fail
        refine wp_flow3 14 0 [isV (.agg #[I i, .slice GA gn gc, .slice RA rn rc, .slice OA on oc]), isV (.slice (some ⟨sb, so, none⟩) (wl + 1) c1), isV (.slice (some ⟨sb, so, none⟩) (wl + 1) c1), isV (.int .i64 ((wl : Int) + 1)), isV (.int .i64 wl), isV (.slice (some ⟨sb, so, none⟩) wl c1), fun v _ => ∃ A B : Value, v = .tuple #[A, B, .int .i64 0], fun v _ => ∃ A B : Value, v = .tuple #[A, B, .int .i64 0], fun _ _ => True, fun _ _ => True, isV (.int .i64 0), fun _ _ => True, fun _ _ => True, isV (.int .i64 0)] (by kernel_rfl) rfl rfl (by kernel_rfl) (by kernel_rfl) ⟨isV_mono, isV_mono, isV_mono, isV_mono, isV_mono, isV_mono, fun v w w' h hx => h, fun v w w' h hx => h, fun v w w' h hx => trivial, fun v w w' h hx => trivial, isV_mono, fun v w w' h hx => trivial, fun v w w' h hx => trivial, isV_mono, trivial⟩ ?each ?rest
        case each =>
          refine .cons ?_ (.cons ?_ (.cons ?_ (.cons ?_ (.cons ?_ (.cons ?_ (.cons ?_ (.cons ?_ (.cons ?_ (.cons ?_ (.cons ?_ (.cons ?_ (.cons ?_ (.cons ?_ (.nil))))))))))))))
          · intro fa fw hx hs hb
            have s2 : fa.tmps[(2 : Nat)]? = some (.pointer (some ⟨w.heap.size, 0, none⟩)) := (hb 2 (by kernel_rfl)).trans (by rfl)
            have c0 := hx.keeps _ _ B0.out
            have c1 := hx.keeps _ _ B1.out
            have c2 := hx.keeps _ _ B2.out
            have c3 := hx.keeps _ _ B3.out
            refine .inl ⟨wanted_free rfl, fun K hK => ?_⟩
            clear hs hb hx
            go_simp
            exact hK _ _ rfl (Ext.refl _)
          · intro fa fw hx hs hb
            have s5 : fa.tmps[(5 : Nat)]? = some (.slice (some ⟨sb, so, none⟩) (wl + 1) c1) := (hb 5 (by kernel_rfl)).trans (by rfl)
            refine .inl ⟨wanted_free rfl, fun K hK => ?_⟩
            clear hs hb hx
            go_simp
            exact hK _ _ rfl (Ext.refl _)
          · intro fa fw hx hs hb
            have s5 : fa.tmps[(5 : Nat)]? = some (.slice (some ⟨sb, so, none⟩) (wl + 1) c1) := (hb 5 (by kernel_rfl)).trans (by rfl)
            refine .inl ⟨wanted_free rfl, fun K hK => ?_⟩
            clear hs hb hx
            go_simp
            exact hK _ _ rfl (Ext.refl _)
          · intro fa fw hx hs hb
            obtain ⟨_, s64, rfl⟩ := hs 2 64 (by kernel_rfl) (by kernel_rfl)
            refine .inl ⟨wanted_free rfl, fun K hK => ?_⟩
            clear hs hb
            go_simp
            exact hK _ _ rfl (Ext.refl _)
          · intro fa fw hx hs hb
            obtain ⟨_, s65, rfl⟩ := hs 3 65 (by kernel_rfl) (by kernel_rfl)
            refine .inl ⟨wanted_free rfl, fun K hK => ?_⟩
            clear hs hb
            have h60 := H60.out
            have hwp : IntKind.i64.wrap (wl : Int) = wl := IntWalk.i64_in _ (by omega)
            go_simp
            exact hK _ _ rfl (Ext.refl _)
          · intro fa fw hx hs hb
            obtain ⟨_, s63, rfl⟩ := hs 1 63 (by kernel_rfl) (by kernel_rfl)
            obtain ⟨_, s66, rfl⟩ := hs 4 66 (by kernel_rfl) (by kernel_rfl)
            refine .inl ⟨wanted_free rfl, fun K hK => ?_⟩
            clear hs hb
            have hc := HC1.out
            have hc1 := hc.1
            have hc0 : wl ≤ c1 := Nat.le_of_succ_le hc1
            have hc2 := hc.2
            unfold maxLen at hc2
            clear hc
            go_simp
            exact hK _ _ rfl (Ext.refl _)
          · intro fa fw hx hs hb
            obtain ⟨_, s62, rfl⟩ := hs 0 62 (by kernel_rfl) (by kernel_rfl)
            obtain ⟨_, s67, rfl⟩ := hs 5 67 (by kernel_rfl) (by kernel_rfl)
            refine .inl ⟨wanted_free rfl, fun K hK => ?_⟩
            clear hs hb
            go_simp
            refine (run_any i GA gn gc RA rn rc OA on oc N _ wl c1 wv fw (N3.out.keep hx.keeps) (SP.out.keep hx.keeps) HLM.out).mono ?_
            rintro e w' ⟨y1, y2, ys, rfl, -, -, xq⟩
            rw [HR0.out]
            exact hK _ _ ⟨y1, y2, rfl⟩ xq
          · intro fa fw hx hs hb
            obtain ⟨_, s68, A68, B68, rfl⟩ := hs 6 68 (by kernel_rfl) (by kernel_rfl)
            refine .inl ⟨wanted_free rfl, fun K hK => ?_⟩
            clear hs hb
            go_simp
            exact hK _ _ ⟨A68, B68, rfl⟩ (Ext.refl _)
          · intro fa fw hx hs hb
            obtain ⟨_, s61, A61, B61, rfl⟩ := hs 7 61 (by kernel_rfl) (by kernel_rfl)
            refine .inl ⟨wanted_free rfl, fun K hK => ?_⟩
            clear hs hb
            go_simp
            exact hK _ _ trivial (Ext.refl _)
          · intro fa fw hx hs hb
            obtain ⟨_, s61, A61, B61, rfl⟩ := hs 7 61 (by kernel_rfl) (by kernel_rfl)
            refine .inl ⟨wanted_free rfl, fun K hK => ?_⟩
            clear hs hb
            go_simp
            exact hK _ _ trivial (Ext.refl _)
          · intro fa fw hx hs hb
            obtain ⟨_, s61, A61, B61, rfl⟩ := hs 7 61 (by kernel_rfl) (by kernel_rfl)
            refine .inl ⟨wanted_free rfl, fun K hK => ?_⟩
            clear hs hb
            go_simp
            exact hK _ _ rfl (Ext.refl _)
          · intro fa fw hx hs hb
            obtain ⟨v69, s69, _⟩ := hs 8 69 (by kernel_rfl) (by kernel_rfl)
            refine .inl ⟨wanted_free rfl, fun K hK => ?_⟩
            clear hs hb
            go_simp
            exact hK _ _ trivial (Ext.refl _)
          · intro fa fw hx hs hb
            obtain ⟨v70, s70, _⟩ := hs 9 70 (by kernel_rfl) (by kernel_rfl)
            refine .inl ⟨wanted_free rfl, fun K hK => ?_⟩
            clear hs hb
            go_simp
            exact hK _ _ trivial (Ext.refl _)
          · intro fa fw hx hs hb
            obtain ⟨_, s71, rfl⟩ := hs 10 71 (by kernel_rfl) (by kernel_rfl)
            refine .inl ⟨wanted_free rfl, fun K hK => ?_⟩
            clear hs hb hx
            go_simp
            exact hK _ _ rfl (Ext.refl _)
        case rest =>
          intro w9 hxw9
          rintro _ rfl
          rintro _ rfl
          rintro _ rfl
          rintro _ rfl
          rintro _ rfl
          rintro _ rfl
          rintro _ ⟨A68, B68, rfl⟩
          rintro _ ⟨A61, B61, rfl⟩
          rintro _ ⟨⟨v69, s69, _⟩⟩
          rintro _ ⟨⟨v70, s70, _⟩⟩
          rintro _ rfl
          rintro _ ⟨⟨v14, s14, _⟩⟩
          rintro _ ⟨⟨v15, s15, _⟩⟩
          rintro _ rfl
          simp only [putAll, List.take, Act.put, List.setIfInBounds_toArray, List.set_cons_zero, List.set_cons_succ]
          refine wpAny_done (by kernel_rfl) ?_ _
          have X4 := Lib.hid (X3.out.trans hxw9)
          clear hxw9
          go_wp2_with fail
          refine (reachBegun_any w9).mono ?_; rintro e w5 ⟨rfl, x5⟩
          have X5 := Lib.hid x5; clear x5
          go_wp2
          go_ret
          exact ⟨by simp, HX.out.trans (X4.out.trans X5.out)⟩
      · have hz1 : decide (60 < ((wl + 1 : Nat) : Int)) = true := decide_eq_true (by omega)
        have hz3 : decide (60 < ((wl : Int) + 1)) = true := decide_eq_true (by omega)
        have hz0 : (((wl + 1 : Nat) : Int) == 0) = false := by rw [beq_eq_false_iff_ne]; omega
        have hz2 : (((wl : Int) + 1) == 0) = false := by rw [beq_eq_false_iff_ne]; omega
        go_wp2_with fail
        refine (reachBegun_any w2).mono ?_; rintro e w3 ⟨rfl, x3⟩
        have X3 := Lib.hid x3; clear x3 hz0 hz1 hz2 hz3
        go_wp2
        go_ret
        exact ⟨by simp; try omega, HX.out.trans (X2.out.trans X3.out)⟩
  · go_wp2_with fail
    refine (reachBegun_any w2).mono ?_; rintro e w3 ⟨rfl, x3⟩
    have X3 := Lib.hid x3; clear x3
    go_wp2
    go_ret
    exact ⟨by simp, HX.out.trans (X2.out.trans X3.out)⟩
end
end Go.Proofs.Ytjagbnaacfhokaa
