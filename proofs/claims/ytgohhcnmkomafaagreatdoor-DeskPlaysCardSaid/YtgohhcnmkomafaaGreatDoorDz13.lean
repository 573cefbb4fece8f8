/- The reference's PlayOf. -/
import Derived.Test.YtgohhcnmkomafaaGreatDoorDz10
import Derived.Test.YtgohhcnmkomafaaGreatDoorDz12
import Derived.Test.YtgohhcnmkomafaaGreatDoorDz08
import Derived.Deep.DeepCutAuto
import Derived.Deep.RegionWith
namespace Go.Proofs.YtgohhcnmkomafaaGreatDoor
set_option linter.unusedVariables false
set_option linter.unusedSimpArgs false
set_option linter.unusedVariables false
set_option linter.unusedSimpArgs false
set_option maxRecDepth 100000
open Go.RowKit
attribute [local go_sem] Oper.semAt_some
theorem step_turnD {p : List PNode} {r : RestM} {x : Int} (h : checkR p r = 0) (h0 : 0 ≤ x) (h8 : x < 8) : stepM p r x = (turnR (treeOf p) r x, (turnM (treeOf p) r x).1, 0) := by
  unfold stepM; rw [if_neg (by simpa using h), if_neg (by omega)]
theorem fresh_checkD {p : List PNode} (h : checkP p = 0) : checkR p (freshM p.length) = 0 := by
  unfold checkR
  rw [if_neg (by simpa using h), if_neg (by simp [freshM])]
  rw [if_neg]
  simp only [Bool.not_eq_true, List.any_eq_false, Bool.and_eq_true, not_and]
  intro y hy h1
  have := (List.of_mem_zip hy).1
  simp [freshM] at this
  rw [this.2] at h1; cases h1
theorem step_check {q : Tr} (ok : q.ok) (hg : ∀ x ∈ q.flat, goodN x) (hs : q.size ≤ 14) {r : RestM} (h : checkR q.flat r = 0) (l : List UInt8) : checkR q.flat (stepL q r l).1 = 0 := by
  unfold stepL
  split
  · rename_i x hx
    have hx8 := (tickM_some hx).1
    have hst := step_turnD (x := (x : Int)) h (by omega) (by omega)
    have := step_ok (p := q.flat) (r := r) (ins := x) (by rw [hst])
    rw [hst, treeOf_flat ok hs] at this
    exact this.1
  · split
    · exact h
    split
    · exact h
    split
    · have := fresh_checkD (p := q.flat) (checkR_ok h).1
      rw [flat_size] at this; exact this
    · exact h
theorem is_prefix : ∀ w s : List UInt8, isP w s = w.isPrefixOf s
  | [], s => by simp [isP, cutP]
  | c :: w, [] => by simp [isP, cutP]
  | c :: w, d :: s => by
    have ih := is_prefix w s
    unfold isP at ih ⊢
    by_cases h : c = d
    · subst h; simp [cutP, ih]
    · have hb : (c == d) = false := beq_eq_false_iff_ne.2 h
      simp [cutP, h, List.isPrefixOf, hb]
theorem tick_rest (l : List UInt8) : (if isP tickB l then behindM (restP tickB l) else none) = tickM l := by
  rw [← tick_behind l]
  by_cases h : isP tickB l = true
  · rw [if_pos h, if_pos (by rw [← is_prefix]; exact h)]
    congr 1
    unfold isP at h
    obtain ⟨r, hr⟩ := Option.isSome_iff_exists.1 h
    have hp := is_prefix tickB l
    unfold isP at hp
    rw [hr] at hp
    obtain ⟨z, rfl⟩ := List.isPrefixOf_iff_prefix.1 hp.symm
    unfold restP
    simp [tickB, cutP]
  · rw [if_neg h, if_neg (by rw [← is_prefix]; exact h)]
theorem count_take (t : List UInt8) (k : Nat) (h : k < t.length) : (t.take (k + 1)).count 10 = (t.take k).count 10 + (if t[k] = 10 then 1 else 0) := by
  rw [List.take_succ_eq_append_getElem h, List.count_append]
  by_cases h' : t[k] = 10
  · rw [if_pos h', h']; rfl
  · rw [if_neg h']
    have : [t[k]].count 10 = 0 := List.count_eq_zero_of_not_mem (fun hm => h' (List.mem_singleton.1 hm).symm)
    omega
theorem linesFrom_step (t cur : List UInt8) (k : Nat) (h : k < t.length) : linesFrom cur (t.drop k) = if t[k] = 10 then cur :: linesFrom [] (t.drop (k + 1)) else linesFrom (cur ++ [t[k]]) (t.drop (k + 1)) := by
  rw [List.drop_eq_getElem_cons h, linesFrom]
theorem byte_at (t : List UInt8) (k : Nat) (hlt : k < t.length) (h : k < (⟨t.toArray⟩ : ByteArray).size) : (⟨t.toArray⟩ : ByteArray)[k]'h = t[k]'hlt := rfl
theorem byte_ne {b : UInt8} (h : b ≠ 10) : ((b.toNat : Int) == 10) = false := by
  rw [beq_eq_false_iff_ne]
  exact fun e => h (UInt8.toNat_inj.1 (by have : b.toNat = 10 := by omega
                                          rw [this]; rfl))
set_option maxHeartbeats 4000000 in
theorem playOf_bad (s t : List UInt8) (w : World) (hs : s.length ≤ maxLen) (h : 4096 < s.length ∨ progOfText s = none) :
    Calls Tryz.prog 5 #[S s, S t] w fun e w' => e = .returned (Pr (S (playV s t)) (I (playE s t))) ∧ Ext w w' := by
  have hv : playV s t = [] := by
    unfold playV playE
    cases hp : progOfText s with
    | none => rfl
    | some q =>
      rw [hp] at h
      rw [if_pos (h.resolve_right (by simp))]; rfl
  rw [hv]
  unfold playE
  by_cases h1 : 4096 < s.length
  · rw [if_pos h1]
    have hgt : (decide ((((⟨s.toArray⟩ : ByteArray).size : Nat) : Int) > 4096)) = true := by show decide (((s.length : Nat) : Int) > 4096) = true; exact decide_eq_true (by omega)
    clear h hv
    go_enter Tryz.func5, Tryz.ntmps5
    go_wp2_with fail
    go_ret2
    exact ⟨rfl, Ext.refl _⟩
  · have hn := h.resolve_left h1
    rw [if_neg h1, if_pos hn]
    have HN := Lib.hid (prog_no s w (by omega) hn)
    have hgt : ¬ (((s.length : Nat) : Int) > 4096) := by omega
    clear h hv hn
    go_enter Tryz.func5, Tryz.ntmps5
    go_wp2_with fail
    refine HN.out.mono ?_; rintro e w1 ⟨rfl, x1⟩
    go_wp2
    go_ret2
    exact ⟨rfl, x1⟩
set_option maxHeartbeats 8000000 in
theorem playOf_good (s t : List UInt8) (q : Tr) (w : World) (hs : s.length ≤ 4096) (ht : t.length ≤ maxLen) (hq : progOfText s = some q) :
    Calls Tryz.prog 5 #[S s, S t] w fun e w' => e = .returned (Pr (S (playV s t)) (I (playE s t))) ∧ Ext w w' := by
  obtain ⟨hst, ok, hg, hsz⟩ := progOf_some hq
  have htl : t.length ≤ 9223372036854775807 := ht
  have hgt : ¬ (((s.length : Nat) : Int) > 4096) := by omega
  have HY := Lib.hid (prog_yes s w q hs hq)
  have HOK := Lib.hid ok; have HG := Lib.hid hg; have HS := Lib.hid hsz; have HST := Lib.hid hst; have HQ := Lib.hid hq
  have hsn : ¬ 4096 < s.length := by omega
  have hE : playE s t = if 4096 < t.length ∨ 40 < t.count 10 then 2 else if t ≠ [] ∧ t.getLast? ≠ some 10 then 1 else 0 := by
    unfold playE; rw [if_neg hsn, if_neg (by rw [hq]; simp)]
  have hV : playV s t = if playE s t = 0 then playL q (freshM q.size) (linesFrom [] t) else [] := by unfold playV; rw [hq]
  have HE := Lib.hid hE; have HV := Lib.hid hV
  clear ok hg hsz hst hq hE hV hsn ht
  go_enter Tryz.func5, Tryz.ntmps5
  go_wp2_with fail
  refine HY.out.mono ?_; rintro e w1 ⟨A, c, rfl, sl, k1, k2, x1⟩
  have SL := Lib.hid sl; have X1 := Lib.hid x1; have K1 := Lib.hid k1; have K2 := Lib.hid k2
  clear sl x1 k1 k2
  go_upto_region 7 with fail
  iterate 7 go_step
  (first | skip | go_step)
  go_cut [8] (fun s8 wx => ∃ n : Nat, s8 = .int .i64 n ∧ wx = w1 ∧ (40 < n ↔ 40 < t.count 10))
  case first =>
    go_wp2
    go_loopw [8, 9] (fun n i wr => ∃ k : Nat, k ≤ t.length ∧ i = .int .i64 k ∧ wr = w1 ∧ n = .int .i64 ((t.take k).count 10 : Nat) ∧ (t.take k).count 10 ≤ 41) (fun _ i _ => t.length - (intOf i).toNat)
    case atStart => exact ⟨0, by omega, rfl, rfl, by simp, by simp⟩
    case round =>
      obtain ⟨k, hk, rfl, rfl, rfl, h41⟩ := hrel
      by_cases hlt : k < t.length
      · by_cases hc : (t.take k).count 10 ≤ 40
        · have hct := Lib.hid (count_take t k hlt)
          obtain ⟨n, hn⟩ : ∃ n, n = (t.take k).count 10 := ⟨_, rfl⟩
          rw [← hn] at hct hc h41 ⊢
          clear hn
          have hlti : ((k : Int) < t.length) := by omega
          have hci : ((n : Int) ≤ 40) := by omega
          have hby := byte_at t k hlt
          obtain ⟨b, hb⟩ : ∃ b, b = t[k] := ⟨_, rfl⟩
          rw [← hb] at hct hby
          clear hb
          by_cases h10 : b = 10
          · subst h10
            go_wp2
            go_roundw
            case rel => exact ⟨k + 1, by omega, by go_num, by (first | trivial | rfl), by rw [hct.out, if_pos rfl]; rfl, by rw [hct.out, if_pos rfl]; omega⟩
            case measure => simp [intOf]; omega
          · have hbi := byte_ne h10
            go_wp2
            go_roundw
            case rel => exact ⟨k + 1, by omega, by go_num, by (first | trivial | rfl), by rw [hct.out, if_neg h10]; rfl, by rw [hct.out, if_neg h10]; omega⟩
            case measure => simp [intOf]; omega
        · have hci : ¬ ((((t.take k).count 10 : Nat) : Int) ≤ 40) := by omega
          have hlti : ((k : Int) < t.length) := by omega
          have hsub : 40 < t.count 10 := by have := (List.take_sublist k t).count_le 10; omega
          have HSUB := Lib.hid hsub
          clear hsub
          generalize (t.take k).count 10 = n at *
          go_wp2
          go_meet
          exact ⟨n, rfl, by (first | trivial | rfl), ⟨fun _ => HSUB.out, fun _ => by omega⟩⟩
      · have hkn : k = t.length := by omega
        subst hkn
        rw [List.take_length] at *
        go_wp2
        go_meet
        exact ⟨_, rfl, by (first | trivial | rfl), Iff.rfl⟩
  case rest =>
    obtain ⟨n, rfl, rfl, hn⟩ := hcut
    rename World => w1
    have HN := Lib.hid hn
    clear hn
    by_cases h3 : 4096 < t.length ∨ 40 < t.count 10
    · have he : playE s t = 2 := by rw [HE.out, if_pos h3]
      have hv : playV s t = [] := by rw [HV.out, he, if_neg (by decide)]
      have HEE := Lib.hid he; have HVV := Lib.hid hv
      by_cases h4 : 4096 < t.length
      · have h4i : ((t.length : Int) > 4096) := by omega
        clear he hv h3
        go_wp2
        go_ret2
        exact ⟨by rw [HEE.out, HVV.out]; rfl, X1.out⟩
      · have h4i : ¬ ((t.length : Int) > 4096) := by omega
        have h5i : ((n : Int) > 40) := by have := HN.out.2 (h3.resolve_left h4); omega
        clear he hv h3
        go_wp2
        go_ret2
        exact ⟨by rw [HEE.out, HVV.out]; rfl, X1.out⟩
    · have h4 : t.length ≤ 4096 := by omega
      have h5 : t.count 10 ≤ 40 := by omega
      have h4i : ¬ ((t.length : Int) > 4096) := by omega
      have h5i : ¬ ((n : Int) > 40) := by have := HN.out; omega
      have HE1 : Hid (playE s t = if t ≠ [] ∧ t.getLast? ≠ some 10 then 1 else 0) := Lib.hid (by rw [HE.out, if_neg h3])
      clear h3
      by_cases h6 : t ≠ [] ∧ t.getLast? ≠ some 10
      · have he : playE s t = 1 := by rw [HE1.out, if_pos h6]
        have hv : playV s t = [] := by rw [HV.out, he, if_neg (by decide)]
        have HEE := Lib.hid he; have HVV := Lib.hid hv
        have hp : 0 < t.length := List.length_pos_iff.2 h6.1
        have hby := byte_at t (t.length - 1) (by omega)
        have hb : t[t.length - 1]'(by omega) ≠ 10 := fun e => h6.2 (by rw [List.getLast?_eq_getElem?, List.getElem?_eq_getElem (by omega), e])
        obtain ⟨b, hbb⟩ : ∃ b, b = t[t.length - 1]'(by omega) := ⟨_, rfl⟩
        rw [← hbb] at hby hb
        have hbi := byte_ne hb
        have hpi : ((t.length : Int) > 0) := by omega
        clear he hv h6 hbb
        go_wp2
        go_ret2
        exact ⟨by rw [HEE.out, HVV.out]; rfl, X1.out⟩
      · have he : playE s t = 0 := by rw [HE1.out, if_neg h6]
        have hv : playV s t = playL q (freshM q.size) (linesFrom [] t) := by rw [HV.out, if_pos he]
        have HEE := Lib.hid he; have HVV := Lib.hid hv
        have H6 := Lib.hid h6
        clear he hv h6 HE HV HE1
        go_upto_region 14 with fail
        go_cut [68] (fun s68 wx => s68 = .bool false ∧ wx = w1)
        case first =>
          by_cases ht0 : t.length = 0
          · have hpi : ¬ ((t.length : Int) > 0) := by omega
            go_wp2
            go_meet
            exact ⟨rfl, by (first | trivial | rfl)⟩
          · have hby := byte_at t (t.length - 1) (by omega)
            have hb : t[t.length - 1]'(by omega) = 10 := by
              have h := Classical.byContradiction (fun hc => H6.out ⟨fun e => ht0 (by rw [e]; rfl), hc⟩)
              rw [List.getLast?_eq_getElem?, List.getElem?_eq_getElem (by omega)] at h
              exact Option.some.inj h
            rw [hb] at hby
            have hpi : ((t.length : Int) > 0) := by omega
            clear hb
            go_wp2
            go_meet
            exact ⟨rfl, by (first | trivial | rfl)⟩
        case rest =>
          obtain ⟨rfl, rfl⟩ := hcut
          rename World => w1
          go_wp2_with fail
          refine (rfresh_any A q.size c w1 HS.out).mono ?_; rintro e w3 ⟨g1, g2, rfl, h1, h2, h3, h4', h5', x3⟩
          have X3 := Lib.hid (X1.out.trans x3); have O1 := Lib.hid h4'; have O2 := Lib.hid h5'; have X13 := Lib.hid x3
          clear h1 h2 h3 h4' h5' x3
          go_wp2_with fail
          obtain ⟨w4, hw4⟩ : ∃ y, y = w3.alloc (.cells #[Bv true, .slice (some ⟨g1, 0, none⟩) q.size q.size, .slice (some ⟨g2, 0, none⟩) 3 3] 34) := ⟨_, rfl⟩
          have hx4 : Ext w3 w4 := by rw [hw4]; exact (Ext.refl _).alloc _
          have hb4 : Box w4 w3.heap.size 34 [Bv true, .slice (some ⟨g1, 0, none⟩) q.size q.size, .slice (some ⟨g2, 0, none⟩) 3 3] := by rw [hw4]; exact Box.new w3 _ _
          have hr4 : RestC w4 true (some ⟨g1, 0, none⟩) q.size q.size (some ⟨g2, 0, none⟩) 3 3 (freshM q.size) := by
            obtain ⟨A1, c1, e1, -, -, s1⟩ := own_sl (own_ext O1.out hx4)
            obtain ⟨A2, c2, e2, -, -, s2⟩ := own_sl (own_ext O2.out hx4)
            injection e1 with e1 _ _; subst e1
            injection e2 with e2 _ _; subst e2
            exact ⟨rfl, s1, s2, ⟨Nat.le_refl _, by have := HS.out; unfold maxLen; omega⟩, ⟨Nat.le_refl _, by unfold maxLen; omega⟩⟩
          have hck4 : checkR q.flat (freshM q.size) = 0 := by
            have := fresh_checkD (p := q.flat) (tree_check HOK.out HS.out HG.out)
            rw [flat_size] at this; exact this
          have HX4 := Lib.hid (X3.out.trans hx4); have HB4 := Lib.hid hb4; have HR4 := Lib.hid hr4; have HCK4 := Lib.hid hck4
          have SL4 := Lib.hid (SL.out.keep (X13.out.trans hx4).keeps)
          obtain ⟨D, hD⟩ : ∃ D, D = w3.heap.size := ⟨_, rfl⟩
          have HAD : Hid (∀ a, A = some a → D ≠ a.block) := Lib.hid (fun a e => by
            cases hf : q.flat with
            | nil => have := flat_pos q; rw [← flat_size, hf] at this; simp at this
            | cons y ys =>
              obtain ⟨b, off, e', k0, -⟩ := SL.out.2 0 y (by rw [hf]; rfl)
              rw [e'] at e; injection e with e; subst e
              have := lt_of_cell k0
              have := X13.out.size
              simp only at *
              omega)
          have hwD : w.heap.size ≤ D := by rw [hD]; exact X3.out.size
          rw [← hw4]
          rw [← hD] at HB4 ⊢
          clear hw4 hx4 hb4 hr4 hck4 hD SL X1 X3 O1 O2 X13 H6 HN h4i h5i
          go_loopw [11, 12, 13] (fun acc st i wr => ∃ (k sk : Nat) (cur a : List UInt8) (r : RestM) (fr : Bool) (WA : Option Addr) (wn wk : Nat) (OA : Option Addr) (on oc : Nat), k ≤ t.length ∧ i = .int .i64 k ∧ st = .int .i64 sk ∧ acc = S a ∧ sk ≤ k ∧ (t.take k).drop sk = cur ∧ a.length ≤ 401 * (t.take k).count 10 ∧
            Ext w wr ∧ SlN wr A q.size q.flat ∧ Box wr D 34 [Bv fr, .slice WA wn wk, .slice OA on oc] ∧ RestC wr fr WA wn wk OA on oc r ∧ checkR q.flat r = 0 ∧ a ++ playL q r (linesFrom cur (t.drop k)) = playL q (freshM q.size) (linesFrom [] t)) (fun _ _ i _ => t.length - (intOf i).toNat)
          case atStart => exact ⟨0, 0, [], [], freshM q.size, true, some ⟨g1, 0, none⟩, q.size, q.size, some ⟨g2, 0, none⟩, 3, 3, Nat.zero_le _, rfl, rfl, rfl, Nat.le_refl _, rfl, by simp, HX4.out, SL4.out, HB4.out, HR4.out, HCK4.out, rfl⟩
          case round =>
            obtain ⟨k, sk, cur, a, r, fr, WA, wn, wk, OA, on, oc, hk, rfl, rfl, rfl, hsk, hcur, hal, hext, hsl, hbx, hrc, hck, hM⟩ := hrel
            by_cases hlt : k < t.length
            · have hlti : ((k : Int) < t.length) := by omega
              have hby := byte_at t k hlt
              have hls := linesFrom_step t cur k hlt
              have hct := count_take t k hlt
              have htk : t.take (k + 1) = t.take k ++ [t[k]] := List.take_succ_eq_append_getElem hlt
              obtain ⟨b, hb⟩ : ∃ b, b = t[k]'hlt := ⟨_, rfl⟩
              rw [← hb] at hby hls hct htk
              by_cases h10 : b = 10
              · subst h10
                rw [if_pos rfl] at hls hct
                rw [hls, playL] at hM
                have hcl : cur.length ≤ 4096 := by rw [← hcur, List.length_drop, List.length_take]; omega
                have e1 : (⟨t.toArray⟩ : ByteArray).extract sk k = ⟨cur.toArray⟩ := by rw [ba_extract, hcur]
                have hskk : ¬ (k < sk) := by omega
                have HCT := Lib.hid hct; have HTK := Lib.hid htk; have HM := Lib.hid hM; have HEX := Lib.hid hext; have HSL := Lib.hid hsl; have HBX := Lib.hid hbx; have HRC := Lib.hid hrc; have HCK := Lib.hid hck; have HAL := Lib.hid hal; have HCL := Lib.hid hcl
                clear hls hct htk hM hext hsl hbx hrc hck hal hcur hb
                go_wp2_with fail
                refine (after_any cur tickB (by omega) (by decide) wr).mono ?_; rintro e w' ⟨rfl, rfl⟩
                have htr := tick_rest cur
                obtain ⟨b1, hb1⟩ : ∃ x, x = isP tickB cur := ⟨_, rfl⟩
                obtain ⟨rr, hrr⟩ : ∃ x, x = restP tickB cur := ⟨_, rfl⟩
                rw [← hb1, ← hrr] at htr
                rw [← hb1, ← hrr]
                obtain ⟨xv, bv, hbv⟩ : ∃ (xv : Nat) (bv : Bool), behV rr = Pr (I xv) (.bool bv) := by
                  unfold behV
                  cases behindM rr with
                  | some x => exact ⟨x, true, rfl⟩
                  | none => exact ⟨0, false, rfl⟩
                have HTR := Lib.hid htr; have HBV := Lib.hid hbv
                clear htr hbv hb1 hrr e1
                go_upto_region 27 with fail
                go_cut [18, 19] (fun s18 s19 wx => s18 = I xv ∧ s19 = .bool bv ∧ Ext wr wx)
                case first =>
                  go_wp2_with fail
                  refine (inputsFrom_any rr wr).mono ?_; rintro e w2 ⟨rfl, x2⟩; rw [HBV.out]
                  go_wp2
                  go_meet
                  exact ⟨rfl, rfl, x2⟩
                case rest =>
                  obtain ⟨rfl, rfl, hx2⟩ := hcut
                  rename World => w2
                  have HX2 := Lib.hid hx2
                  clear hx2
                  iterate 2 go_step
                  go_cut [15] (fun s15 wx => ∃ (fr : Bool) (WA : Option Addr) (wn wk : Nat) (OA : Option Addr) (on oc : Nat), s15 = S (stepL q r cur).2 ∧ Ext w wx ∧ SlN wx A q.size q.flat ∧ Box wx D 34 [Bv fr, .slice WA wn wk, .slice OA on oc] ∧ RestC wx fr WA wn wk OA on oc (stepL q r cur).1)
                  case first =>
                    have hb2 := HBX.out.ext HX2.out
                    have z0 : w2.cell? ⟨D, 0, none⟩ = some (Bv fr) := (hb2.cell 0).trans rfl
                    have z1 : w2.cell? ⟨D, 1, none⟩ = some (.slice WA wn wk) := (hb2.cell 1).trans rfl
                    have z2 : w2.cell? ⟨D, 2, none⟩ = some (.slice OA on oc) := (hb2.cell 2).trans rfl
                    have fz := hb2.free
                    have HB2 := Lib.hid hb2
                    have HR2 := Lib.hid (HRC.out.keep HX2.out.keeps)
                    have HSL2 := Lib.hid (HSL.out.keep HX2.out.keeps)
                    have HEX2 := Lib.hid (HEX.out.trans HX2.out)
                    clear hb2 hby HM HCT HTK HAL
                    cases htm : tickM cur with
                    | some x0 =>
                      obtain ⟨hx8, -⟩ := tickM_some htm
                      have n1 : (cur == [115, 104, 111, 119]) = false := beq_eq_false_iff_ne.2 (fun e => by have h2 := tick_not.2.1; rw [show showB = cur from e.symm, htm] at h2; cases h2)
                      have n2 : (cur == [97, 103, 97, 105, 110]) = false := beq_eq_false_iff_ne.2 (fun e => by have h2 := tick_not.2.2; rw [show againB = cur from e.symm, htm] at h2; cases h2)
                      have n3 : (cur == [114, 101, 115, 116]) = false := beq_eq_false_iff_ne.2 (fun e => by have h2 := tick_not.1; rw [show restB = cur from e.symm, htm] at h2; cases h2)
                      have hb1 : b1 = true := by
                        have h := HTR.out
                        rw [htm] at h
                        cases b1 with
                        | true => rfl
                        | false => simp at h
                      subst hb1
                      have hbh : behindM rr = some x0 := by have h := HTR.out; rw [htm, if_pos rfl] at h; exact h
                      have hv := HBV.out
                      unfold behV at hv
                      rw [hbh] at hv
                      simp [Pr] at hv
                      obtain ⟨hv1, hv2⟩ := hv
                      obtain rfl : x0 = xv := by omega
                      subst hv2
                      have hst : stepL q r cur = (turnR q r x0, listedT (tickW (turnR q r x0).outs (turnM q r x0).1)) := by unfold stepL; rw [htm]
                      have hsp := step_turnD (x := (x0 : Int)) HCK.out (by omega) (by omega)
                      rw [treeOf_flat HOK.out HS.out] at hsp
                      have hT := walkOf_any A q.size c q.flat fr WA wn wk OA on oc r x0 w2 HSL2.out HR2.out (by have := HS.out; unfold maxLen; omega)
                      rw [hsp] at hT
                      have T := Lib.hid hT; have HSP := Lib.hid hst
                      clear hT hst hsp hbh hv1 HTR HBV htm
                      go_upto_region 43 with fail
                      go_cut [22] (fun s22 wx => ∃ (fr' : Bool) (WA' : Option Addr) (wn' wk' : Nat) (OA' : Option Addr) (on' oc' : Nat), s22 = .bool (turnM q r x0).1 ∧ Ext w wx ∧ SlN wx A q.size q.flat ∧ Box wx D 34 [Bv fr', .slice WA' wn' wk', .slice OA' on' oc'] ∧ RestC wx fr' WA' wn' wk' OA' on' oc' (turnR q r x0))
                      case first =>
                        go_wp2_with fail
                        refine T.out.mono ?_; rintro e w5 ⟨fr', WA', wn', wk', OA', on', oc', rfl, hrc', hn1, hn2, xz⟩
                        have hb5 := HB2.out.ext xz
                        have y0 : w5.cell? ⟨D, 0, none⟩ = some (Bv fr) := (hb5.cell 0).trans rfl
                        have y1 : w5.cell? ⟨D, 1, none⟩ = some (.slice WA wn wk) := (hb5.cell 1).trans rfl
                        have y2 : w5.cell? ⟨D, 2, none⟩ = some (.slice OA on oc) := (hb5.cell 2).trans rfl
                        have yf := hb5.free
                        have hlt9 := HB2.out.lt
                        have d1 : ∀ a, WA' = some a → D ≠ a.block := fun a ha => Nat.ne_of_lt (Nat.lt_of_lt_of_le hlt9 (hn1 a ha))
                        have d2 : ∀ a, OA' = some a → D ≠ a.block := fun a ha => Nat.ne_of_lt (Nat.lt_of_lt_of_le hlt9 (hn2 a ha))
                        have HB5 := Lib.hid hb5; have HRC' := Lib.hid hrc'; have XZ := Lib.hid xz; have D1 := Lib.hid d1; have D2 := Lib.hid d2
                        clear hb5 hrc' xz d1 d2 hn1 hn2 z0 z1 z2 fz hlt9
                        go_wp2
                        go_meet
                        exact ⟨fr', WA', wn', wk', OA', on', oc', rfl, (((HEX2.out.trans XZ.out).setCell (p := ⟨D, 0, none⟩) hwD _).setCell (p := ⟨D, 1, none⟩) hwD _).setCell (p := ⟨D, 2, none⟩) hwD _,
                          (((HSL2.out.keep XZ.out.keeps).far' HAD.out _).far' HAD.out _).far' HAD.out _, ((HB5.out.set 0 _).set 1 _).set 2 _, ((HRC'.out.far' D1.out D2.out _).far' D1.out D2.out _).far' D1.out D2.out _⟩
                      case rest =>
                        obtain ⟨fr', WA', wn', wk', OA', on', oc', rfl, hx9, hs9, hb9, hr9⟩ := hcut
                        rename World => wb
                        have hon : on' = 3 := by have h := hr9.outs.len; rw [← h]; exact (turn_len q r x0).2
                        subst hon
                        have u0 : wb.cell? ⟨D, 2, none⟩ = some (.slice OA' 3 oc') := (hb9.cell 2).trans rfl
                        have HX9 := Lib.hid hx9; have HS9 := Lib.hid hs9; have HB9 := Lib.hid hb9; have HR9 := Lib.hid hr9
                        obtain ⟨Os, hOs⟩ : ∃ O, O = (turnR q r x0).outs := ⟨_, rfl⟩
                        have hou := hr9.outs
                        rw [← hOs] at hou
                        have HOU := Lib.hid hou; have HOS := Lib.hid hOs
                        obtain ⟨ov, hov⟩ : ∃ o, o = (turnM q r x0).1 := ⟨_, rfl⟩
                        rw [← hov]
                        have HOV := Lib.hid hov
                        clear hx9 hs9 hb9 hr9 z0 z1 z2 fz T hou hOs hov
                        go_wp2_with fail
                        go_loopw [23, 24] (fun v i wr2 => ∃ (m : Nat) (ws : List (List UInt8)), m ≤ 3 ∧ i = .int .i64 m ∧ Ext wb wr2 ∧ ws.length ≤ m ∧ (∀ x ∈ ws, x.length ≤ 4) ∧ wr2.ownsRow wb.heap.size 9 1 v ws.length (ws.map S) ∧ ws ++ outW (Os.drop m) m = outW Os 0) (fun _ i _ => 3 - (intOf i).toNat)
                        case atStart => exact ⟨0, [], Nat.zero_le _, rfl, Ext.refl _, Nat.zero_le _, by simp, World.ownsRow_nil _ _ _ _, rfl⟩
                        case round =>
                          obtain ⟨m, ws, hm, rfl, hext, hwl, hwb, hown, hMM⟩ := hrel
                          have u0' := hext.keeps _ _ u0
                          by_cases hltm : m < 3
                          · obtain ⟨b, off, x, rfl, hc0, hx⟩ := HOU.out.at_ hltm
                            have hc := hext.keeps _ _ hc0
                            obtain ⟨hkl, hxe⟩ := List.getElem?_eq_some_iff.1 hx
                            have hd : Os.drop m = x :: Os.drop (m + 1) := by rw [List.drop_eq_getElem_cons hkl, hxe]
                            rw [hd, outW] at hMM
                            have HMM := Lib.hid hMM; have HO := Lib.hid hown; have HWB := Lib.hid hwb; have HE2 := Lib.hid hext
                            clear hMM hown hd hx hc0 hwb hkl hxe hext u0
                            cases x
                            · go_wp2_with fail
                              go_roundw
                              case rel => exact ⟨m + 1, ws, by omega, by go_num, HE2.out, by omega, HWB.out, HO.out, by simpa using HMM.out⟩
                              case measure => simp [intOf]; omega
                            · obtain ⟨lc, hlc⟩ : ∃ l, l = letter 65 m := ⟨_, rfl⟩
                              have sg := fun W => rsign_any 65 m (.inl rfl) (by omega) W
                              rw [← hlc] at sg
                              have SG := Lib.hid sg
                              have hlc2 : lc = UInt8.ofNat (65 + m) := by rw [hlc]; simp [letter]
                              have HLC := Lib.hid hlc2
                              clear sg hlc hlc2
                              go_wp2_with fail
                              refine (SG.out wr).mono ?_; rintro e w1' ⟨rfl, xd⟩
                              have HE3 := Lib.hid (HE2.out.trans xd); have HO3 := Lib.hid (own_ext HO.out xd)
                              clear xd hc u0'
                              go_wp2_with (at_builtin; refine wpList_push rfl (.tmp 149) (.tmp 152) 58 9 rfl tab_str Tryz.underlying58 rfl (by omega) wb w1' HE3.out _ ws.length _ rfl HO3.out [S [lc]] rfl rfl rfl (by simp [Value.oneCell']) (by unfold maxLen; omega) (by omega) ?_; intro v' w2' hown2 hx3 _)
                              go_roundw
                              case rel => exact ⟨m + 1, ws ++ [[lc]], by omega, by go_num, hx3, by simp; omega, fun x hx => by
                                rcases List.mem_append.1 hx with h | h
                                · exact HWB.out x h
                                · simp at h; subst h; simp, by simpa using hown2, by rw [HLC.out]; simpa using HMM.out⟩
                              case measure => simp [intOf]; omega
                          · have hkn : m = 3 := by omega
                            subst hkn
                            have hws : ws = outW Os 0 := by
                              rw [List.drop_eq_nil_of_le (by have h := HOU.out.len; omega)] at hMM
                              simpa [outW] using hMM
                            have HE2 := Lib.hid hext; have HWS := Lib.hid hws; have HO := Lib.hid hown; have HWB := Lib.hid hwb
                            clear hMM hown hwb hws hext u0 u0'
                            cases ov
                            · obtain ⟨A', c', rfl, h1', h2', hs'⟩ := own_sl HO.out
                              have HJ := Lib.hid (joined_any A' ws.length c' ws wr hs' (by omega) HWB.out)
                              clear h1' h2' hs'
                              go_wp2_with fail
                              refine HJ.out.mono ?_; rintro e w1' ⟨rfl, rfl⟩
                              go_wp2
                              go_meet
                              exact ⟨fr', WA', wn', wk', OA', 3, oc', by rw [HSP.out, HWS.out, tickW, ← HOS.out, ← HOV.out]; simp, HX9.out.trans HE2.out, HS9.out.keep HE2.out.keeps, HB9.out.ext HE2.out, by rw [HSP.out]; exact HR9.out.keep HE2.out.keeps⟩
                            · go_wp2_with (at_builtin; refine wpList_push rfl (.tmp 155) (.tmp 156) 58 9 rfl tab_str Tryz.underlying58 rfl (by omega) wb wr HE2.out _ ws.length _ rfl HO.out [S overB] rfl rfl rfl (by simp [Value.oneCell']) (by unfold maxLen; omega) (by omega) ?_; intro v' w2' hown2 hx3 _)
                              have hown3 : w2'.ownsRow wb.heap.size 9 1 v' (ws ++ [overB]).length ((ws ++ [overB]).map S) := by simpa using hown2
                              obtain ⟨A', c', rfl, h1', h2', hs'⟩ := own_sl hown3
                              have HJ := Lib.hid (joined_any A' (ws ++ [overB]).length c' (ws ++ [overB]) w2' hs' (by simp; omega) (fun x hx => by
                                rcases List.mem_append.1 hx with h | h
                                · exact HWB.out x h
                                · simp at h; subst h; decide))
                              have HX3 := Lib.hid hx3
                              clear h1' h2' hs' hown2 hown3 hx3
                              go_wp2_with fail
                              refine HJ.out.mono ?_; rintro e w1' ⟨rfl, rfl⟩
                              go_wp2
                              go_meet
                              exact ⟨fr', WA', wn', wk', OA', 3, oc', by rw [HSP.out, HWS.out, tickW, ← HOS.out, ← HOV.out]; simp, HX9.out.trans HX3.out, HS9.out.keep HX3.out.keeps, HB9.out.ext HX3.out, by rw [HSP.out]; exact HR9.out.keep HX3.out.keeps⟩
                    | none =>
                      have HTM := Lib.hid htm
                      have hno : b1 = true → bv = false := fun e => by
                        have h := HTR.out
                        rw [htm, e, if_pos rfl] at h
                        have h2 := HBV.out
                        unfold behV at h2
                        rw [h] at h2
                        simp [Pr] at h2
                        exact h2.2
                      clear htm HTR HBV
                      by_cases c1 : cur = showB
                      · subst c1
                        have hst : stepL q r showB = (r, textT q) := by unfold stepL; rw [HTM.out]; simp only []; rw [if_neg (by decide), if_pos trivial]
                        rw [← HST.out] at hst
                        have HSP := Lib.hid hst
                        clear hst
                        simp only [showB]
                        go_wp2
                        go_meet
                        exact ⟨fr, WA, wn, wk, OA, on, oc, by rw [HSP.out], HEX2.out, HSL2.out, HB2.out, by rw [HSP.out]; exact HR2.out⟩
                      · have n1 : (cur == [115, 104, 111, 119]) = false := beq_eq_false_iff_ne.2 c1
                        by_cases c2 : cur = againB
                        · subst c2
                          have hst : stepL q r againB = (freshM q.size, okB) := by unfold stepL; rw [HTM.out]; simp only []; rw [if_neg (by decide), if_neg (by decide), if_pos trivial]
                          have HSP := Lib.hid hst
                          have HFR := Lib.hid (rfresh_any A q.size c w2 HS.out)
                          clear hst n1 c1
                          simp only [againB]
                          go_wp2_with fail
                          refine HFR.out.mono ?_; rintro e w5 ⟨p1, p2, rfl, hp1, hp2, -, ho1, ho2, hx5⟩
                          have hb5 := HB2.out.ext hx5
                          have y0 : w5.cell? ⟨D, 0, none⟩ = some (Bv fr) := (hb5.cell 0).trans rfl
                          have y1 : w5.cell? ⟨D, 1, none⟩ = some (.slice WA wn wk) := (hb5.cell 1).trans rfl
                          have y2 : w5.cell? ⟨D, 2, none⟩ = some (.slice OA on oc) := (hb5.cell 2).trans rfl
                          have yf := hb5.free
                          have HP1 := Lib.hid (Nat.ne_of_lt (Nat.lt_of_lt_of_le HB2.out.lt hp1)); have HP2 := Lib.hid (Nat.ne_of_lt (Nat.lt_of_lt_of_le HB2.out.lt hp2))
                          have HB5 := Lib.hid hb5; have HO1 := Lib.hid ho1; have HO2 := Lib.hid ho2; have HX5 := Lib.hid hx5
                          clear hb5 hp1 hp2 ho1 ho2 hx5 z0 z1 z2 fz
                          go_wp2
                          go_meet
                          have hrr : RestC w5 true (some ⟨p1, 0, none⟩) q.size q.size (some ⟨p2, 0, none⟩) 3 3 (freshM q.size) := by
                            obtain ⟨A1, c1, f1, -, -, s1⟩ := own_sl HO1.out
                            obtain ⟨A2, c2, f2, -, -, s2⟩ := own_sl HO2.out
                            injection f1 with f1 _ _; subst f1
                            injection f2 with f2 _ _; subst f2
                            exact ⟨rfl, s1, s2, ⟨Nat.le_refl _, by have := HS.out; unfold maxLen; omega⟩, ⟨Nat.le_refl _, by unfold maxLen; omega⟩⟩
                          exact ⟨true, some ⟨p1, 0, none⟩, q.size, q.size, some ⟨p2, 0, none⟩, 3, 3, by rw [HSP.out]; rfl, (((HEX2.out.trans HX5.out).setCell (p := ⟨D, 0, none⟩) hwD _).setCell (p := ⟨D, 1, none⟩) hwD _).setCell (p := ⟨D, 2, none⟩) hwD _,
                            (((HSL2.out.keep HX5.out.keeps).far' HAD.out _).far' HAD.out _).far' HAD.out _, ((HB5.out.set 0 _).set 1 _).set 2 _, by rw [HSP.out]; exact ((hrr.far HP1.out HP2.out _).far HP1.out HP2.out _).far HP1.out HP2.out _⟩
                        · have n2 : (cur == [97, 103, 97, 105, 110]) = false := beq_eq_false_iff_ne.2 c2
                          by_cases c3 : cur = restB
                          · subst c3
                            have hst : stepL q r restB = (r, listedT (waitW r.waits 0)) := by unfold stepL; rw [HTM.out]; simp only []; rw [if_pos trivial]
                            have HSP := Lib.hid hst
                            have hwnn : wn = q.size := by have h1 := HR2.out.waits.1; have h2 := (checkR_ok HCK.out).2.1; rw [flat_size] at h2; simp at h1; omega
                            subst hwnn
                            clear hst n1 n2 c1 c2
                            simp only [restB]
                            have hs14 : q.size ≤ 14 := HS.out
                            go_wp2
                            go_loopw [20, 21] (fun v i wr2 => ∃ (m : Nat) (ws : List (List UInt8)), m ≤ q.size ∧ i = .int .i64 m ∧ Ext w2 wr2 ∧ ws.length ≤ m ∧ (∀ x ∈ ws, x.length ≤ 4) ∧ wr2.ownsRow w2.heap.size 9 1 v ws.length (ws.map S) ∧ ws ++ waitW (r.waits.drop m) m = waitW r.waits 0) (fun _ i _ => q.size - (intOf i).toNat)
                            case atStart => exact ⟨0, [], Nat.zero_le _, rfl, Ext.refl _, Nat.zero_le _, by simp, World.ownsRow_nil _ _ _ _, rfl⟩
                            case round =>
                              obtain ⟨m, ws, hm, rfl, hext, hwl, hwb, hown, hMM⟩ := hrel
                              have z1' := hext.keeps _ _ z1
                              by_cases hltm : m < q.size
                              · have hltmi : ((m : Int) < q.size) := by omega
                                obtain ⟨b, off, x, rfl, hc0, hx⟩ := HR2.out.waits.at_ hltm
                                have hc := hext.keeps _ _ hc0
                                obtain ⟨hkl, hxe⟩ := List.getElem?_eq_some_iff.1 hx
                                have hd : r.waits.drop m = x :: r.waits.drop (m + 1) := by rw [List.drop_eq_getElem_cons hkl, hxe]
                                rw [hd, waitW] at hMM
                                have HMM := Lib.hid hMM; have HO := Lib.hid hown; have HWB := Lib.hid hwb; have HE2 := Lib.hid hext
                                clear hMM hown hd hx hc0 hwb hkl hxe hext z0 z1 z2
                                cases x
                                · go_wp2_with fail
                                  go_roundw
                                  case rel => exact ⟨m + 1, ws, by omega, by go_num, HE2.out, by omega, HWB.out, HO.out, by simpa using HMM.out⟩
                                  case measure => simp [intOf]; omega
                                · go_wp2_with fail
                                  refine (digits_any m (by omega) wr).mono ?_; rintro e w1' ⟨rfl, xd⟩
                                  have HE3 := Lib.hid (HE2.out.trans xd); have HO3 := Lib.hid (own_ext HO.out xd)
                                  clear xd hc z1'
                                  go_wp2_with (at_builtin; refine wpList_push rfl (.tmp 120) (.tmp 123) 58 9 rfl tab_str Tryz.underlying58 rfl (by omega) w2 w1' HE3.out _ ws.length _ rfl HO3.out [S (digD m)] rfl rfl rfl (by simp [Value.oneCell']) (by unfold maxLen; omega) (by omega) ?_; intro v' w2' hown2 hx3 _)
                                  go_roundw
                                  case rel => exact ⟨m + 1, ws ++ [digD m], by omega, by go_num, hx3, by simp; omega, fun x hx => by
                                    rcases List.mem_append.1 hx with h | h
                                    · exact HWB.out x h
                                    · simp at h; subst h; unfold digD; split <;> simp, by simpa using hown2, by simpa using HMM.out⟩
                                  case measure => simp [intOf]; omega
                              · have hkn : m = q.size := by omega
                                subst hkn
                                have hltmi : ¬ ((q.size : Int) < q.size) := by omega
                                have hws : ws = waitW r.waits 0 := by
                                  rw [List.drop_eq_nil_of_le (by have := HR2.out.waits.1; simp at this; omega)] at hMM
                                  simpa [waitW] using hMM
                                obtain ⟨A', c', rfl, h1', h2', hs'⟩ := own_sl hown
                                have HJ := Lib.hid (joined_any A' ws.length c' ws wr hs' (by omega) hwb)
                                have HE2 := Lib.hid hext; have HWS := Lib.hid hws
                                clear hMM hown hs' h1' h2' hwb hwl hws hext z0 z1 z2 z1'
                                go_wp2_with fail
                                refine HJ.out.mono ?_; rintro e w1' ⟨rfl, rfl⟩
                                go_wp2
                                go_meet
                                exact ⟨fr, WA, q.size, wk, OA, on, oc, by rw [HSP.out, HWS.out], HEX2.out.trans HE2.out, HSL2.out.keep HE2.out.keeps, HB2.out.ext HE2.out, by rw [HSP.out]; exact HR2.out.keep HE2.out.keeps⟩
                          · have n3 : (cur == [114, 101, 115, 116]) = false := beq_eq_false_iff_ne.2 c3
                            have hst : stepL q r cur = (r, errB) := by unfold stepL; rw [HTM.out]; simp only []; rw [if_neg c3, if_neg c1, if_neg c2]
                            have HSP := Lib.hid hst
                            clear hst c1 c2 c3 z0 z1 z2 fz
                            cases b1
                            · clear hno
                              go_wp2
                              go_meet
                              exact ⟨fr, WA, wn, wk, OA, on, oc, by rw [HSP.out]; rfl, HEX2.out, HSL2.out, HB2.out, by rw [HSP.out]; exact HR2.out⟩
                            · have hbv := hno rfl
                              subst hbv
                              clear hno
                              go_wp2
                              go_meet
                              exact ⟨fr, WA, wn, wk, OA, on, oc, by rw [HSP.out]; rfl, HEX2.out, HSL2.out, HB2.out, by rw [HSP.out]; exact HR2.out⟩
                  case rest =>
                    obtain ⟨fr', WA', wn', wk', OA', on', oc', rfl, hx9, hs9, hb9, hr9⟩ := hcut
                    have hck9 := step_check HOK.out HG.out HS.out HCK.out cur
                    have hgl := stepL_len (t := q) (r := r) HS.out (by rw [(checkR_ok HCK.out).2.1, flat_size]) cur
                    have hal9 := HAL.out
                    have hc40 : (t.take k).count 10 ≤ 40 := by have := (List.take_sublist k t).count_le 10; omega
                    obtain ⟨g, hgs⟩ : ∃ g, g = (stepL q r cur).2 := ⟨_, rfl⟩
                    rw [← hgs] at hgl ⊢
                    have HM2 := HM.out
                    rw [← hgs] at HM2
                    have HM9 := Lib.hid HM2
                    have ha1 : (⟨a.toArray⟩ : ByteArray) ++ ⟨g.toArray⟩ = ⟨(a ++ g).toArray⟩ := str_app a g
                    have ha2 : (⟨(a ++ g).toArray⟩ : ByteArray) ++ ⟨#[10]⟩ = ⟨(a ++ g ++ [10]).toArray⟩ := str_app (a ++ g) [10]
                    have hl1 : ¬ (9223372036854775807 < a.length + g.length) := by omega
                    have hl2 : ¬ (9223372036854775807 < a.length + g.length + 1) := by omega
                    have HX9 := Lib.hid hx9; have HS9 := Lib.hid hs9; have HB9 := Lib.hid hb9; have HR9 := Lib.hid hr9; have HCK9 := Lib.hid hck9; have HGL := Lib.hid hgl
                    clear hx9 hs9 hb9 hr9 hck9 HM2 HM HRC HBX HSL HEX hgs hgl hal9 hc40
                    go_wp2
                    go_roundw
                    case rel => exact ⟨k + 1, k + 1, [], a ++ (g ++ [10]), (stepL q r cur).1, fr', WA', wn', wk', OA', on', oc', by omega, by go_num, by go_num, by simp, Nat.le_refl _, by rw [List.drop_eq_nil_of_le (by rw [List.length_take]; omega)], by have := HAL.out; have := HGL.out; rw [HCT.out]; simp only [List.length_append, List.length_singleton]; omega, HX9.out, HS9.out, HB9.out, HR9.out, HCK9.out, by rw [← HM9.out]; simp⟩
                    case measure => simp [intOf]; omega
              · have hbi : ((b.toNat : Int) != 10) = true := by simp [bne, byte_ne h10]
                rw [if_neg h10] at hls hct
                have HLS := Lib.hid hls; have HCT := Lib.hid hct; have HTK := Lib.hid htk; have HM := Lib.hid hM; have HEX := Lib.hid hext; have HSL := Lib.hid hsl; have HBX := Lib.hid hbx; have HRC := Lib.hid hrc; have HCK := Lib.hid hck; have HAL := Lib.hid hal; have HCU := Lib.hid hcur
                clear hls hct htk hM hext hsl hbx hrc hck hal hcur hb
                go_wp2
                go_roundw
                case rel => exact ⟨k + 1, sk, cur ++ [b], a, r, fr, WA, wn, wk, OA, on, oc, by omega, by go_num, rfl, rfl, by omega, by rw [HTK.out, List.drop_append_of_le_length (by rw [List.length_take]; omega), HCU.out], by rw [HCT.out]; exact HAL.out, HEX.out, HSL.out, HBX.out, HRC.out, HCK.out, by rw [← HLS.out]; exact HM.out⟩
                case measure => simp [intOf]; omega
            · obtain rfl : k = t.length := by omega
              have hlti : ¬ ((t.length : Int) < t.length) := by omega
              have hfin : a = playV s t := by
                rw [List.drop_length, linesFrom, playL, List.append_nil] at hM
                rw [hM, HVV.out]
              subst hfin
              have HEX := Lib.hid hext
              clear hM hext hsl hbx hrc hck hal hcur
              go_wp2
              go_ret2
              exact ⟨by rw [HEE.out]; rfl, HEX.out⟩
theorem playOf_any (s t : List UInt8) (w : World) (hs : s.length ≤ maxLen) (ht : t.length ≤ maxLen) :
    Calls Tryz.prog 5 #[S s, S t] w fun e w' => e = .returned (Pr (S (playV s t)) (I (playE s t))) ∧ Ext w w' := by
  by_cases h : 4096 < s.length ∨ progOfText s = none
  · exact playOf_bad s t w hs h
  · cases hq : progOfText s with
    | none => exact absurd (.inr hq) h
    | some q => exact playOf_good s t q w (by omega) ht hq
end Go.Proofs.YtgohhcnmkomafaaGreatDoor
/- The body of DeskPlays, from the contracts. -/
namespace Go.Proofs.YtgohhcnmkomafaaGreatDoor
set_option linter.unusedVariables false
set_option linter.unusedSimpArgs false
set_option maxRecDepth 100000
open Go.RowKit
def playTD : Tr := .two ⟨5, 0⟩ (.two ⟨6, 0⟩ (.two ⟨5, 0⟩ (.leaf ⟨4, 0⟩) (.leaf ⟨3, 0⟩)) (.two ⟨5, 0⟩ (.leaf ⟨1, 0⟩) (.leaf ⟨3, 1⟩))) (.two ⟨5, 0⟩ (.leaf ⟨1, 0⟩) (.two ⟨8, 0⟩ (.leaf ⟨3, 2⟩) (.leaf ⟨2, 0⟩)))
theorem playTD_flat : playTD.flat = playM := rfl
theorem playTD_ok : playTD.ok := by simp [playTD, Tr.ok, two]
theorem playTD_good : ∀ x ∈ playTD.flat, goodN x := by
  rw [playTD_flat]; intro x hx
  simp only [playM, List.mem_cons, List.not_mem_nil, or_false] at hx
  rcases hx with rfl | rfl | rfl | rfl | rfl | rfl | rfl | rfl | rfl | rfl | rfl | rfl | rfl <;> exact ⟨rfl, rfl⟩
def playSD : List UInt8 := textT playTD
theorem playSD_len : playSD.length ≤ 4096 := by decide
theorem playSD_prog : progOfText playSD = some playTD := progOf_text playTD_ok playTD_good (by decide)
theorem play_anyD (w : World) : Calls Tryz.prog 25 #[] w fun e w' => e = .returned (.slice (some ⟨w.heap.size, 0, none⟩) 13 13) ∧ w.alloc (.cells #[.int .i64 5, .int .i64 0, .int .i64 6, .int .i64 0, .int .i64 5, .int .i64 0, .int .i64 4, .int .i64 0, .int .i64 3, .int .i64 0, .int .i64 5, .int .i64 0, .int .i64 1, .int .i64 0, .int .i64 3, .int .i64 1, .int .i64 5, .int .i64 0, .int .i64 1, .int .i64 0, .int .i64 8, .int .i64 0, .int .i64 3, .int .i64 2, .int .i64 2, .int .i64 0] 91) = w' := by
  go_enter Tryz.func25, Tryz.ntmps25
  go_wp2
  go_ret
  exact ⟨rfl, rfl⟩
theorem play_anyD' (w : World) : Calls Tryz.prog 25 #[] w fun e w' => e = .returned (.slice (some ⟨w.heap.size, 0, none⟩) 13 13) ∧ SlN w' (some ⟨w.heap.size, 0, none⟩) 13 playTD.flat ∧ Ext w w' := by
  refine (play_anyD w).mono ?_; rintro e w1 ⟨rfl, rfl⟩
  exact ⟨rfl, by exact Sl2.newAt PK PS w _ playM _ _ rfl rfl, (Ext.refl _).alloc _⟩
def scriptD : List UInt8 := [114, 101, 115, 116, 10, 116, 105, 99, 107, 10, 114, 101, 115, 116, 10, 116, 105, 99, 107, 32, 120, 10, 114, 101, 115, 116, 10, 116, 105, 99, 107, 32, 121, 32, 122, 10, 116, 105, 99, 107, 32, 120, 32, 121, 32, 122, 10, 114, 101, 115, 116, 10, 97, 103, 97, 105, 110, 10, 116, 105, 99, 107, 32, 122, 32, 121, 10, 116, 105, 99, 107, 32, 120, 10]
def saidD : List UInt8 := [45, 10, 45, 10, 51, 32, 54, 10, 65, 32, 66, 10, 57, 10, 67, 32, 111, 118, 101, 114, 10, 45, 10, 45, 10, 111, 107, 10, 101, 114, 114, 111, 114, 32, 49, 10, 45, 10]
theorem saidD_is : playL playTD (freshM playTD.size) (linesFrom [] scriptD) = saidD := by decide +kernel
theorem begunE : playE playSD scriptD = 0 := by
  unfold playE
  rw [if_neg (by have := playSD_len; omega), if_neg (by rw [playSD_prog]; simp), if_neg (by decide), if_neg (by decide)]
theorem begunV : playV playSD scriptD = saidD := by
  unfold playV; rw [playSD_prog]; simp only []; rw [if_pos begunE, saidD_is]
set_option maxHeartbeats 4000000 in
theorem deskBegun_any (m : Int) (w : World) (hm : w.cell? ⟨0, 0, none⟩ = some (.int .i64 m)) : Calls Tryz.prog 6 #[] w fun e w' => e = .returned (.bool true) ∧ Ext w w' := by
  have HML := Lib.hid hm
  clear hm
  go_enter Tryz.func6, Tryz.ntmps6
  go_wp2_with fail
  refine (play_anyD' _).mono ?_; rintro e w1 ⟨rfl, hp, x1⟩
  go_wp2_with fail
  refine (show_ok _ 13 13 playTD w1 hp playTD_ok (by decide) playTD_good).mono ?_; rintro e w2 ⟨rfl, x2⟩
  rw [show textT playTD = playSD from rfl]
  have X2 := Lib.hid (x1.trans x2); clear x1 x2 hp
  have hd := dplay_any playSD scriptD m w2 (X2.out.keeps _ _ HML.out) (by have := playSD_len; unfold maxLen; omega) (by decide)
  rw [begunE, begunV] at hd
  have HD := Lib.hid hd
  clear hd
  go_wp2_with fail
  refine HD.out.mono ?_; rintro e w3 ⟨rfl, x3⟩
  have X3 := Lib.hid (X2.out.trans x3); clear x3
  simp only [saidD]
  go_wp2
  go_ret
  exact ⟨rfl, X3.out⟩
set_option maxHeartbeats 4000000 in
theorem deskPlays_any (s t : List UInt8) (m : Int) (w : World) (hm : w.cell? ⟨0, 0, none⟩ = some (.int .i64 m)) (hs : s.length ≤ maxLen) (ht : t.length ≤ maxLen) :
    Calls Tryz.prog 3 #[S s, S t] w fun e w' => e = .returned (.bool true) ∧ Ext w w' := by
  have HML := Lib.hid hm; have HS := Lib.hid hs; have HT := Lib.hid ht
  obtain ⟨v, hv⟩ : ∃ v, v = playV s t := ⟨_, rfl⟩
  obtain ⟨x, hx⟩ : ∃ x, x = playE s t := ⟨_, rfl⟩
  have HV := Lib.hid hv; have HX := Lib.hid hx
  clear hm hs ht hv hx
  go_enter Tryz.func3, Tryz.ntmps3
  go_wp2_with fail
  refine (dplay_any s t m w HML.out HS.out HT.out).mono ?_; rintro e w1 ⟨rfl, x1⟩; rw [← HV.out, ← HX.out]
  have X1 := Lib.hid x1; clear x1
  go_wp2_with fail
  refine (playOf_any s t w1 HS.out HT.out).mono ?_; rintro e w2 ⟨rfl, x2⟩; rw [← HV.out, ← HX.out]
  have X2 := Lib.hid (X1.out.trans x2); clear x2
  go_wp2_with fail
  refine (deskBegun_any m w2 (X2.out.keeps _ _ HML.out)).mono ?_; rintro e w3 ⟨rfl, x3⟩
  have X3 := Lib.hid (X2.out.trans x3); clear x3
  have hvv : (v == v) = true := by simp
  have hxx : (x == x) = true := by simp
  go_wp2
  go_ret
  exact ⟨rfl, X3.out⟩
end Go.Proofs.YtgohhcnmkomafaaGreatDoor
