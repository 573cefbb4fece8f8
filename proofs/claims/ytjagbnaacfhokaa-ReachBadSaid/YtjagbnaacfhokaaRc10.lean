/- The reference's settled and StepOf. -/
import Derived.Test.YtjagbnaacfhokaaRc09
import Derived.Test.YtjagbnaacfhokaaRc03
import Derived.Test.YtjagbnaacfhokaaRc04
import Derived.Test.YtjagbnaacfhokaaRc07
namespace Go.Proofs.Ytjagbnaacfhokaa
set_option linter.unusedVariables false
set_option linter.unusedSimpArgs false
open Go.RowKit

def mixV (a : List Int) (k n : Nat) : List Int := a.take k ++ List.replicate (n - k) 0
theorem mixV_set {a : List Int} {k n : Nat} {x : Int} (h : k < n) (hx : a[k]? = some x) : (mixV a k n).set k x = mixV a (k + 1) n := by
  unfold mixV
  have hk : k < a.length := (List.getElem?_eq_some_iff.1 hx).1
  rw [List.set_append_right _ _ (by simp; omega)]
  have e : k - (a.take k).length = 0 := by simp; omega
  rw [e, show n - k = (n - (k + 1)) + 1 from by omega, List.replicate_succ, List.set_cons_zero, List.take_add_one, hx]
  simp
theorem mixV_end {a : List Int} {n : Nat} (h : a.length = n) : mixV a n n = a := by
  unfold mixV; rw [List.take_of_length_le (by omega)]; simp

set_option maxRecDepth 100000 in
set_option maxHeartbeats 4000000 in
theorem settled_any (i : Int) (GA : Option Addr) (gn gc : Nat) (RA : Option Addr) (rn rc : Nat) (OA : Option Addr) (on oc : Nat) (N : NetM) (RB : Option Addr) (pn pc : Nat) (IA : Option Addr) (jn jc : Nat) (regs ins : List Int) (w : World)
    (h : NetC w i GA gn gc RA rn rc OA on oc N) (hr : Sl w RB pn (regs.map I)) (hi : Sl w IA jn (ins.map I)) (ak : AskedOK N regs ins) :
    Calls Try.prog 77 #[netV i GA gn gc RA rn rc OA on oc, .slice RB pn pc, .slice IA jn jc] w fun e w' => ∃ v, e = .returned v ∧ w'.ownsRow w.heap.size 3 1 v gn ((settledM N.gates regs ins).map I) ∧ Ext w w' := by
  have hgl : N.gates.length = gn := h.gates.1
  have hg200 : gn ≤ 200 := by have := ak.net.gl; omega
  have hil := ak.il; have hrl := ak.rl
  have hjn : jn = N.ins.toNat := by have := hi.len; omega
  have hpn : pn = N.regs.length := by have := hr.len; omega
  have hgr : ∀ g ∈ N.gates, GateR gn pn jn g := fun g hg => by have := ak.net.gate hg; rw [hgl, ← hjn, ← hpn] at this; exact this
  obtain ⟨W, hW⟩ : ∃ W, W = w.alloc (.cells #[I i, .slice GA gn gc, .slice RA rn rc, .slice OA on oc] 26) := ⟨_, rfl⟩
  have hxW : Ext w W := by rw [hW]; exact (Ext.refl _).alloc _
  have hsz : W.heap.size = w.heap.size + 1 := by rw [hW]; simp
  have hbox : NetBox W w.heap.size i GA gn gc RA rn rc OA on oc := by rw [hW]; exact NetBox.new w i GA gn gc RA rn rc OA on oc _
  have HN := Lib.hid (h.keep hxW.keeps); have HBox := Lib.hid hbox; have HW := Lib.hid hW; have HX := Lib.hid hxW; have HAK := Lib.hid ak
  have HR := Lib.hid (hr.keep hxW.keeps); have HI := Lib.hid (hi.keep hxW.keeps); have HGR := Lib.hid hgr
  have hmk := fun Q => run_make1 (P := Try.prog) 24 3 tab_int' Try.underlying24 rfl gn (by omega) (by omega) Q
  have hown0 : ∀ Q, Ext W Q → (Q.alloc (.cells (zeros (.int .i64 0) gn) 3)).ownsRow W.heap.size 3 1 (.slice (some ⟨Q.heap.size, 0, none⟩) gn gn) gn ((List.replicate gn 0).map I) := fun Q hQ => by
    have := own_made Q 3 (.int .i64 0) gn W.heap.size hQ.size (by unfold maxLen; omega)
    rw [show (List.replicate gn (0 : Int)).map I = List.replicate gn (.int .i64 0) from by simp]
    exact this
  have HO0 := Lib.hid hown0; have HSZ := Lib.hid hsz; have HMK := Lib.hid hmk
  clear h hr hi ak hW hxW hbox hsz hown0 hil hrl hjn hpn hgr
  go_enter Try.func77, Try.ntmps77
  go_wp2_with fail
  rw [← HW.out]
  go_wp2_with fail
  clear hmk
  go_loopw [8] (fun j wr => ∃ k : Nat, k ≤ gn ∧ j = .int .i64 k ∧ Ext W wr ∧ wr.ownsRow W.heap.size 3 1 (.slice (some ⟨w.heap.size + 1, 0, none⟩) gn gn) gn ((fillV k gn).map I)) (fun j _ => gn - (intOf j).toNat)
  case atStart => exact ⟨0, Nat.zero_le _, rfl, (Ext.refl _).alloc _, by rw [← HSZ.out]; have := HO0.out W (Ext.refl _); simpa [fillV] using this⟩
  case round =>
    obtain ⟨k, hk, rfl, hext, hv⟩ := hrel
    by_cases hlt : k < gn
    · obtain ⟨⟨u, hu, hc⟩, hf, -⟩ := own_at hv hlt
      have hsv := (hv.stored k (I 2)).1
      rw [show ((fillV k gn).map I).set k (I 2) = (fillV (k + 1) gn).map I from by rw [← fillV_set hlt, List.map_set]] at hsv
      have hxs : Ext W (wr.setCell ⟨w.heap.size + 1, k, none⟩ (I 2)) := hext.setCell (by show W.heap.size ≤ w.heap.size + 1; exact Nat.le_of_eq HSZ.out) _
      have HV := Lib.hid hsv; have HXS := Lib.hid hxs
      clear hv hext hsv hxs hu
      go_wp2
      go_roundw
      case rel => exact ⟨k + 1, by omega, by go_num, HXS.out, HV.out⟩
      case measure => simp [intOf]; omega
    · have hkn : k = gn := by omega
      subst hkn
      rw [fillV_end] at hv
      have HV := Lib.hid hv; have HE := Lib.hid hext
      clear hv hext hlt hk
      have hmk := HMK.out
      have hst := RoundV.start N.gates regs ins
      rw [hgl] at hst
      have HST := Lib.hid hst; clear hst
      go_wp2_with fail
      go_loopg [7] (k + 1) (fun gk s wr2 => ∃ (g : Nat) (v : List Int), s = .slice (some ⟨g, 0, none⟩) k k ∧ Ext W wr2 ∧ wr2.ownsRow W.heap.size 3 1 (.slice (some ⟨g, 0, none⟩) k k) k (v.map I) ∧ RoundV N.gates regs ins v ∧ v.length = k ∧ goodL v ∧ k < gk + cntV v)
      case atStart => exact ⟨_, _, rfl, HE.out, HV.out, HST.out, by simp [opensM], opens_good _, by omega⟩
      case round =>
        obtain ⟨g, v, rfl, hext, hown, hrv, hvl, hvg, hm⟩ := hrel
        have ho2 := HO0.out wr hext
        have hgn : g ≠ wr.heap.size := by have := (hown.lt g rfl).2; omega
        have hown2 := own_ext hown ((Ext.refl wr).alloc (.cells (zeros (.int .i64 0) k) 3))
        have hnl : (nextV N.gates regs ins v).length = k := by rw [next_len, hgl]
        have HE2 := Lib.hid hext; have HRV := Lib.hid hrv; have HVL := Lib.hid hvl; have HVG := Lib.hid hvg; have HM := Lib.hid hm; have HO2 := Lib.hid ho2; have HGN := Lib.hid hgn; have HOW := Lib.hid hown2; have HNL := Lib.hid hnl
        have hbW : W.heap.size ≤ wr.heap.size := hext.size
        have HBW := Lib.hid hbW
        clear hext hrv hvl hvg hm ho2 hgn hown2 hown hnl hbW
        go_wp2_with fail
        go_loopw [10] (fun j wr3 => ∃ q : Nat, q ≤ k ∧ j = .int .i64 q ∧ Ext W wr3 ∧ wr3.ownsRow W.heap.size 3 1 (.slice (some ⟨wr.heap.size, 0, none⟩) k k) k ((mixV (nextV N.gates regs ins v) q k).map I) ∧ wr3.ownsRow W.heap.size 3 1 (.slice (some ⟨g, 0, none⟩) k k) k (v.map I)) (fun j _ => k - (intOf j).toNat)
        case atStart => exact ⟨0, Nat.zero_le _, rfl, HE2.out.alloc _, by have := HO2.out; simpa [mixV] using this, HOW.out⟩
        case round =>
          obtain ⟨q, hq, rfl, hext3, hn3, hv3⟩ := hrel
          have bx := (HBox.out.keep hext3.keeps)
          by_cases hltq : q < k
          · obtain ⟨b, off, A', m, c', gt, rfl, g0, g1, g2, hs, hmc, hcm, hd, hgk⟩ := HN.out.gates.next hltq
            have c0 := hext3.keeps _ _ g0; have c1 := hext3.keeps _ _ g1; have c2 := hext3.keeps _ _ g2
            have b1 := bx.2.1
            have hwo := worth_any A' m c' RB pn pc IA jn jc (some ⟨g, 0, none⟩) k k regs ins v gt wr (hs.keep hext3.keeps) (HR.out.keep hext3.keeps) (HI.out.keep hext3.keeps)
              (by obtain ⟨A5, c5, e5, -, -, hsl⟩ := own_sl hv3; injection e5 with e5 _ _; rw [e5]; exact hsl) (HGR.out gt (List.mem_of_getElem? hgk)) HVG.out
            have hnv : (nextV N.gates regs ins v)[q]? = some (worthM regs ins v gt) := by unfold nextV; rw [List.getElem?_map, hgk]; rfl
            have hmx := mixV_set hltq hnv
            have HWO := Lib.hid hwo; have HN3 := Lib.hid hn3; have HV3 := Lib.hid hv3; have HE3 := Lib.hid hext3; have HMX := Lib.hid hmx
            clear hwo hn3 hv3 hext3 hmx hnv hs hmc hcm hd hgk g0 g1 g2 bx
            go_wp2_with fail
            refine HWO.out.mono ?_; rintro e w4 ⟨rfl, x4⟩
            have hn4 := own_ext HN3.out x4
            obtain ⟨⟨u, hu, hc⟩, hf, -⟩ := own_at hn4 hltq
            have hst := (hn4.stored q (I (worthM regs ins v gt))).1
            rw [← List.map_set, HMX.out] at hst
            have hv4 := own_other (j := q) (u := I (worthM regs ins v gt)) (own_ext HV3.out x4) (fun e => HGN.out (Option.some.inj e))
            have hx4 := (HE3.out.trans x4).setCell (p := ⟨_, q, none⟩) HBW.out (I (worthM regs ins v gt))
            have HST2 := Lib.hid hst; have HV4 := Lib.hid hv4; have HX4 := Lib.hid hx4
            clear hn4 hu hst hv4 hx4 x4
            go_wp2
            go_roundw
            case rel => exact ⟨q + 1, by omega, by go_num, HX4.out, HST2.out, HV4.out⟩
            case measure => simp [intOf]; omega
          · have hqk : q = k := by omega
            subst hqk
            rw [mixV_end HNL.out] at hn3
            have HN3 := Lib.hid hn3; have HV3 := Lib.hid hv3; have HE3 := Lib.hid hext3
            obtain ⟨A5, c5, e5, -, -, hs5⟩ := own_sl hn3
            obtain ⟨A6, c6, e6, -, -, hs6⟩ := own_sl hv3
            injection e5 with e5 _ e5c; injection e6 with e6 _ e6c
            subst e5; subst e6; subst e5c; subst e6c
            have HS5 := Lib.hid hs5; have HS6 := Lib.hid hs6
            clear hn3 hv3 hext3 hs5 hs6 hltq hq bx
            by_cases hnx : nextV N.gates regs ins v = v
            · have HNX := Lib.hid hnx; clear hnx
              go_wp2_with fail
              refine (sameInts_any _ _ q q q q _ v wr HS5.out HS6.out (by unfold maxLen; omega) (by unfold maxLen; omega)).mono ?_; rintro e w4 ⟨rfl, mm, rfl⟩; rw [decide_eq_true HNX.out]
              go_wp2
              go_ret
              refine ⟨_, rfl, ?_, HX.out.trans (HE3.out.drewN _)⟩
              rw [← settled_eq HRV.out HNX.out]
              exact own_base (own_ext HV3.out ((Ext.refl _).drewN _)) HX.out.size
            · have hmo := HRV.out.more hnx
              have HMO := Lib.hid hmo; have HNX := Lib.hid hnx; clear hnx hmo
              go_wp2_with fail
              refine (sameInts_any _ _ q q q q _ v wr HS5.out HS6.out (by unfold maxLen; omega) (by unfold maxLen; omega)).mono ?_; rintro e w4 ⟨rfl, mm, rfl⟩; rw [decide_eq_false HNX.out]
              go_wp2
              go_roundg (q + 1 - cntV (nextV N.gates regs ins v))
              case measure => have := HM.out; have := HMO.out; have := cntV_max (nextV N.gates regs ins v); have := HNL.out; omega
              case rel => exact ⟨_, _, rfl, HE3.out.drewN _, own_ext HN3.out ((Ext.refl _).drewN _), HRV.out.next, HNL.out, next_good HAK.out.rg HAK.out.ig HVG.out, by have := cntV_max (nextV N.gates regs ins v); have := HNL.out; omega⟩
end Go.Proofs.Ytjagbnaacfhokaa
/- power and bits of the reference. -/
namespace Go.Proofs.Ytjagbnaacfhokaa
set_option linter.unusedVariables false
set_option linter.unusedSimpArgs false
open Go.RowKit

theorem power_any (w : World) : ∀ k : Nat, k ≤ 60 → Calls Try.prog 125 #[I k] w fun e w' => e = .returned (I (2 ^ k : Nat)) ∧ w = w'
  | 0, _ => by
    go_enter Try.func125, Try.ntmps125
    go_wp2
    go_ret
    exact ⟨rfl, rfl⟩
  | k + 1, hk => by
    have ih := power_any w k (by omega)
    have hp : 2 ^ k ≤ 2 ^ 60 := Nat.pow_le_pow_right (by omega) (by omega)
    have h2 : 2 ^ (k + 1) = 2 * 2 ^ k := by rw [Nat.pow_succ]; omega
    rw [h2]
    have hle : ¬ ((k + 1 : Nat) : Int) ≤ 0 := by omega
    have IH := Lib.hid ih; clear ih h2
    have hs : IntKind.i64.wrap (((k + 1 : Nat) : Int) - 1) = k := by rw [show ((k + 1 : Nat) : Int) - 1 = k from by omega]; exact IntWalk.i64_in _ (by omega)
    generalize 2 ^ k = q at *
    have hq : q ≤ 1152921504606846976 := by simpa using hp
    clear hp
    go_enter Try.func125, Try.ntmps125
    go_wp2_with fail
    refine IH.out.mono ?_; rintro e w' ⟨rfl, rfl⟩
    go_wp2
    go_ret
    exact ⟨by simp, rfl⟩

set_option maxHeartbeats 1000000 in
set_option maxRecDepth 100000 in
theorem rbits_any (x : Int) (n : Nat) (w : World) (hx0 : 0 ≤ x) (hx1 : x < 1073741824) (hn : n ≤ 1000) :
    Calls Try.prog 102 #[I x, I n] w fun e w' => ∃ v, e = .returned v ∧ w'.ownsRow w.heap.size 3 1 v n ((bitsM x n).map I) ∧ Ext w w' := by
  go_enter Try.func102, Try.ntmps102
  go_wp2
  go_loopw [0, 5, 6] (fun x' v i wr => ∃ (k : Nat) (y : Int) (zs : List Int), k ≤ n ∧ x' = .int .i64 y ∧ 0 ≤ y ∧ y < 1073741824 ∧ i = .int .i64 k ∧ Ext w wr ∧ wr.ownsRow w.heap.size 3 1 v k (zs.map I) ∧ zs ++ bitsM y (n - k) = bitsM x n) (fun _ _ i _ => n - (intOf i).toNat)
  case atStart => exact ⟨0, x, [], Nat.zero_le _, rfl, hx0, hx1, rfl, Ext.refl _, World.ownsRow_nil _ _ _ _, rfl⟩
  case round =>
    obtain ⟨k, y, zs, hk, rfl, hy0, hy1, rfl, hext, hown, hM⟩ := hrel
    by_cases hlt : k < n
    · rw [show n - k = (n - (k + 1)) + 1 from by omega, bitsM] at hM
      have HM := Lib.hid hM; clear hM
      have HO := Lib.hid hown; clear hown
      go_wp2_with ((at_builtin; refine wpList_push rfl (.tmp 12) (.tmp 15) 24 3 rfl tab_int' Try.underlying24 rfl (by omega) w wr hext _ k _ rfl HO.out [I (y % 2)] rfl rfl rfl (by simp [Value.oneCell']) (by unfold maxLen; omega) (by omega) ?_; intro v' w2 hown2 hx3 _))
      go_roundw
      case rel => exact ⟨k + 1, y / 2, zs ++ [y % 2], by omega, by go_num, by omega, by omega, by go_num, hx3, by simpa using hown2, by rw [← HM.out]; simp⟩
      case measure => simp [intOf]; omega
    · have hkn : k = n := by omega
      subst hkn
      have hz : zs = bitsM x k := by rw [← hM]; simp [bitsM]
      subst hz
      have HO := Lib.hid hown
      clear hM hown
      go_wp2
      go_ret
      exact ⟨_, rfl, HO.out, hext⟩
end Go.Proofs.Ytjagbnaacfhokaa
/- net.First, net.Begin, R.BeginOf, net.Nexts, R.nexts walked. -/
namespace Go.Proofs.Ytjagbnaacfhokaa
set_option linter.unusedVariables false
set_option linter.unusedSimpArgs false
open Go.RowKit

theorem firstM_cons (r : StoreM) (l : List StoreM) : (r :: l).map (fun r => if r.fst then (1 : Int) else 0) = (if r.fst then 1 else 0) :: l.map (fun r => if r.fst then (1 : Int) else 0) := rfl

set_option maxHeartbeats 1000000 in
theorem first_any (i : Int) (GA : Option Addr) (gn gc : Nat) (RA : Option Addr) (rn rc : Nat) (OA : Option Addr) (on oc : Nat) (N : NetM) (w : World)
    (h : NetC w i GA gn gc RA rn rc OA on oc N) (hr : rn ≤ 20) :
    Calls Try.prog 91 #[netV i GA gn gc RA rn rc OA on oc] w fun e w' => ∃ v, e = .returned v ∧ w'.ownsRow w.heap.size 3 1 v rn ((firstM N).map I) ∧ Ext w w' := by
  have H := Lib.hid h.regs; clear h
  go_enter Try.func91, Try.ntmps91
  go_wp2
  go_loopw [3, 10] (fun v j wr => ∃ (k : Nat) (zs : List Int), k ≤ rn ∧ j = .int .i64 k ∧ Ext w wr ∧ wr.ownsRow w.heap.size 3 1 v k (zs.map I) ∧ zs ++ firstM { N with regs := N.regs.drop k } = firstM N) (fun _ j _ => rn - (intOf j).toNat)
  case atStart => exact ⟨0, [], Nat.zero_le _, rfl, (Ext.refl _).alloc _, World.ownsRow_nil _ _ _ _, rfl⟩
  case round =>
    obtain ⟨k, zs, hk, rfl, hext, hown, hM⟩ := hrel
    by_cases hlt : k < rn
    · obtain ⟨b, off, r, rfl, g0, g1, hd, -⟩ := H.out.next hlt
      have c0 := hext.keeps _ _ g0; have c1 := hext.keeps _ _ g1
      simp only [firstM, hd, List.map_cons] at hM
      have HM := Lib.hid hM
      have HO2 := Lib.hid (own_ext hown ((Ext.refl _).alloc (.cells #[Bv r.fst, I r.next] 78)))
      clear hM hd g0 g1 hown
      obtain ⟨rb, rx⟩ := r
      cases rb
      · go_wp2_with (at_builtin; refine wpList_pushB rfl (.tmp 16) (.tmp 18) 24 3 rfl tab_int' Try.underlying24 rfl (by omega) w _ (hext.alloc (.cells #[Bv false, I rx] 78)) _ k _ rfl HO2.out [I 0] rfl rfl _ rfl (by simp) (by simp [Value.oneCell']) (by unfold maxLen; omega) (by omega) ?_; intro v' w2 hown2 hx3 _)
        go_roundw
        case rel => exact ⟨k + 1, zs ++ [0], by omega, by go_num, hx3, by simpa using hown2, by rw [show firstM N = _ from HM.out.symm]; simp [firstM]⟩
        case measure => simp [intOf]; omega
      · go_wp2_with (at_builtin; refine wpList_pushB rfl (.tmp 16) (.tmp 18) 24 3 rfl tab_int' Try.underlying24 rfl (by omega) w _ (hext.alloc (.cells #[Bv true, I rx] 78)) _ k _ rfl HO2.out [I 1] rfl rfl _ rfl (by simp) (by simp [Value.oneCell']) (by unfold maxLen; omega) (by omega) ?_; intro v' w2 hown2 hx3 _)
        go_roundw
        case rel => exact ⟨k + 1, zs ++ [1], by omega, by go_num, hx3, by simpa using hown2, by rw [show firstM N = _ from HM.out.symm]; simp [firstM]⟩
        case measure => simp [intOf]; omega
    · have hkn : k = rn := by omega
      subst hkn
      have hz : zs = firstM N := by rw [← hM]; simp [firstM, H.out.drop_end hlt]
      subst hz
      have HO := Lib.hid hown
      clear hM hown
      go_wp2
      go_ret
      exact ⟨_, rfl, HO.out, hext⟩

set_option maxHeartbeats 1000000 in
theorem beginOf_any (i : Int) (GA : Option Addr) (gn gc : Nat) (RA : Option Addr) (rn rc : Nat) (OA : Option Addr) (on oc : Nat) (N : NetM) (w : World)
    (h : NetC w i GA gn gc RA rn rc OA on oc N) (hr : rn ≤ 20) :
    Calls Try.prog 101 #[netV i GA gn gc RA rn rc OA on oc] w fun e w' => ∃ v, e = .returned v ∧ w'.ownsRow w.heap.size 3 1 v rn ((firstM N).map I) ∧ Ext w w' := by
  have H := Lib.hid h.regs; clear h
  obtain ⟨W, hW⟩ : ∃ W, W = w.alloc (.cells #[I i, .slice GA gn gc, .slice RA rn rc, .slice OA on oc] 26) := ⟨_, rfl⟩
  have hxW : Ext w W := by rw [hW]; exact (Ext.refl _).alloc _
  have HBox : Hid (NetBox W w.heap.size i GA gn gc RA rn rc OA on oc) := by unfold Hid; rw [hW]; exact NetBox.new w i GA gn gc RA rn rc OA on oc _
  have HW := Lib.hid hW; clear hW
  go_enter Try.func101, Try.ntmps101
  go_wp2
  rw [← HW.out]
  go_loopw [3, 4] (fun v j wr => ∃ (k : Nat) (zs : List Int), k ≤ rn ∧ j = .int .i64 k ∧ Ext W wr ∧ wr.ownsRow W.heap.size 3 1 v k (zs.map I) ∧ zs ++ firstM { N with regs := N.regs.drop k } = firstM N) (fun _ j _ => rn - (intOf j).toNat)
  case atStart => exact ⟨0, [], Nat.zero_le _, rfl, Ext.refl _, World.ownsRow_nil _ _ _ _, rfl⟩
  case round =>
    obtain ⟨k, zs, hk, rfl, hext, hown, hM⟩ := hrel
    obtain ⟨q0, q1, q2, q3⟩ := NetBox.keep HBox.out hext.keeps
    have hexw := hxW.trans hext
    by_cases hlt : k < rn
    · obtain ⟨b, off, r, rfl, g0, g1, hd, -⟩ := H.out.next hlt
      have c0 := hexw.keeps _ _ g0; have c1 := hexw.keeps _ _ g1
      simp only [firstM, hd, List.map_cons] at hM
      have HM := Lib.hid hM
      have HO2 := Lib.hid hown
      clear hM hd g0 g1 hown
      obtain ⟨rb, rx⟩ := r
      cases rb
      · go_wp2_with (at_builtin; refine wpList_push rfl (.tmp 19) (.tmp 21) 24 3 rfl tab_int' Try.underlying24 rfl (by omega) W wr hext _ k _ rfl HO2.out [I 0] rfl rfl rfl (by simp [Value.oneCell']) (by unfold maxLen; omega) (by omega) ?_; intro v' w2 hown2 hx3 _)
        go_roundw
        case rel => exact ⟨k + 1, zs ++ [0], by omega, by go_num, hx3, by simpa using hown2, by rw [show firstM N = _ from HM.out.symm]; simp [firstM]⟩
        case measure => simp [intOf]; omega
      · go_wp2_with (at_builtin; refine wpList_push rfl (.tmp 19) (.tmp 21) 24 3 rfl tab_int' Try.underlying24 rfl (by omega) W wr hext _ k _ rfl HO2.out [I 1] rfl rfl rfl (by simp [Value.oneCell']) (by unfold maxLen; omega) (by omega) ?_; intro v' w2 hown2 hx3 _)
        go_roundw
        case rel => exact ⟨k + 1, zs ++ [1], by omega, by go_num, hx3, by simpa using hown2, by rw [show firstM N = _ from HM.out.symm]; simp [firstM]⟩
        case measure => simp [intOf]; omega
    · have hkn : k = rn := by omega
      subst hkn
      have hz : zs = firstM N := by rw [← hM]; simp [firstM, H.out.drop_end hlt]
      subst hz
      have HO := Lib.hid (own_base hown hxW.size)
      clear hM hown
      go_wp2
      go_ret
      exact ⟨_, rfl, HO.out, hexw⟩

theorem netBegin_err (i : Int) (GA : Option Addr) (gn gc : Nat) (RA : Option Addr) (rn rc : Nat) (OA : Option Addr) (on oc : Nat) (N : NetM) (w : World)
    (h : NetC w i GA gn gc RA rn rc OA on oc N) (e : Int) (he : checkN N = e) (h0 : (e != 0) = true) :
    Calls Try.prog 73 #[netV i GA gn gc RA rn rc OA on oc] w fun e' w' => e' = .returned (Pr (.slice none 0 0) (I e)) ∧ Ext w w' := by
  have HE := Lib.hid he; have HC := Lib.hid (h.keep (Keeps.alloc w (.cells #[I i, .slice GA gn gc, .slice RA rn rc, .slice OA on oc] 26))); clear he h
  go_enter Try.func73, Try.ntmps73
  go_wp2_with fail
  refine (netCheck_any i GA gn gc RA rn rc OA on oc N _ HC.out).mono ?_; rintro e' w1 ⟨rfl, h1⟩; rw [HE.out]
  go_wp2
  go_ret2
  exact ⟨rfl, ((Ext.refl w).alloc _).trans h1⟩
end Go.Proofs.Ytjagbnaacfhokaa
