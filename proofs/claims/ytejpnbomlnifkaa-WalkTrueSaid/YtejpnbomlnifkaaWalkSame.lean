/- SameRests, Told. -/
import Derived.Test.YtejpnbomlnifkaaWalkRef7
namespace Go.Proofs.Ytejpnbomlnifkaa
set_option linter.unusedVariables false
set_option linter.unusedSimpArgs false
open Go.RowKit

def sameR (a b : RestM) : Bool := (a.fresh == b.fresh) && decide (a.waits = b.waits) && decide (a.outs = b.outs)
theorem sameR_eq {a b : RestM} (h : a = b) : sameR a b = true := by subst h; simp [sameR]

set_option maxHeartbeats 2000000 in
theorem sameRests_any (fr : Bool) (WA : Option Addr) (wn wc : Nat) (OA : Option Addr) (on oc : Nat) (r : RestM) (fr' : Bool) (WA' : Option Addr) (wn' wc' : Nat) (OA' : Option Addr) (on' oc' : Nat) (r' : RestM) (w : World)
    (hr : RestC w fr WA wn wc OA on oc r) (hr' : RestC w fr' WA' wn' wc' OA' on' oc' r') :
    Calls Try.prog 17 #[restV fr WA wn wc OA on oc, restV fr' WA' wn' wc' OA' on' oc'] w fun e w' => e = .returned (.bool (sameR r r')) ∧ Ext w w' := by
  obtain ⟨W, hW⟩ : ∃ W, W = w.alloc (.cells #[Bv fr, .slice WA wn wc, .slice OA on oc] 39) := ⟨_, rfl⟩
  obtain ⟨W2, hW2⟩ : ∃ W2, W2 = W.alloc (.cells #[Bv fr', .slice WA' wn' wc', .slice OA' on' oc'] 39) := ⟨_, rfl⟩
  obtain ⟨p0, p1, p2, hsz⟩ := restBox w fr WA wn wc OA on oc hW
  obtain ⟨y0, y1, y2, hsz2⟩ := restBox W fr' WA' wn' wc' OA' on' oc' hW2
  have hWs : W.heap.size = w.heap.size + 1 := by rw [hW]; simp
  rw [hWs] at y0 y1 y2
  have hxW2 : Ext W W2 := by rw [hW2]; exact (Ext.refl _).alloc _
  have hx2 : Ext w W2 := Ext.trans (by rw [hW]; exact (Ext.refl _).alloc _) hxW2
  have x0 := hxW2.keeps _ _ p0; have x1 := hxW2.keeps _ _ p1; have x2 := hxW2.keeps _ _ p2
  have hW3 : W2 = (w.alloc (.cells #[Bv fr, .slice WA wn wc, .slice OA on oc] 39)).alloc (.cells #[Bv fr', .slice WA' wn' wc', .slice OA' on' oc'] 39) := by rw [hW2, hW]
  have e1 := hr.fresh; have e2 := hr'.fresh
  have hR : sameR r r' = ((fr == fr') && decide (r.waits = r'.waits) && decide (r.outs = r'.outs)) := by simp only [sameR, e1, e2]
  have S1 := fun Q (hx : Ext W2 Q) => sameBools_any WA WA' wn wn' wc wc' r.waits r'.waits Q ((hr.waits.keep hx2.keeps).keep hx.keeps) ((hr'.waits.keep hx2.keeps).keep hx.keeps) (Nat.le_trans hr.wl.1 hr.wl.2) (Nat.le_trans hr'.wl.1 hr'.wl.2)
  have S2 := fun Q (hx : Ext W2 Q) => sameBools_any OA OA' on on' oc oc' r.outs r'.outs Q ((hr.outs.keep hx2.keeps).keep hx.keeps) ((hr'.outs.keep hx2.keeps).keep hx.keeps) (Nat.le_trans hr.ol.1 hr.ol.2) (Nat.le_trans hr'.ol.1 hr'.ol.2)
  have HS1 := Lib.hid S1; have HS2 := Lib.hid S2; have HW := Lib.hid hW3; have HX := Lib.hid hx2; have HR := Lib.hid hR
  clear hW hW2 hsz hsz2 hWs hxW2 hx2 hW3 e1 e2 hR S1 S2 p0 p1 p2 hr hr'
  cases h1 : (fr == fr')
  · have HR2 : Hid (sameR r r' = false) := by unfold Hid; rw [HR.out, h1]; rfl
    go_enter Try.func17, Try.ntmps17
    go_wp2_with fail
    rw [← HW.out]
    go_wp2
    go_ret
    exact ⟨ret_bool HR2.out.symm, HX.out⟩
  · cases h2 : decide (r.waits = r'.waits)
    · have HR2 : Hid (sameR r r' = false) := by unfold Hid; rw [HR.out, h1, h2]; rfl
      have H2 := Lib.hid h2; clear h2
      go_enter Try.func17, Try.ntmps17
      go_wp2_with fail
      rw [← HW.out]
      go_wp2_with fail
      refine (HS1.out _ (Ext.refl _)).mono ?_; rintro e w1 ⟨rfl, m, rfl⟩; rw [H2.out]
      go_wp2
      go_ret
      exact ⟨ret_bool HR2.out.symm, HX.out.drewN _⟩
    · have HR2 : Hid (sameR r r' = decide (r.outs = r'.outs)) := by unfold Hid; rw [HR.out, h1, h2]; rfl
      have H2 := Lib.hid h2; clear h2
      go_enter Try.func17, Try.ntmps17
      go_wp2_with fail
      rw [← HW.out]
      go_wp2_with fail
      refine (HS1.out _ (Ext.refl _)).mono ?_; rintro e w1 ⟨rfl, m, rfl⟩; rw [H2.out]
      go_wp2_with fail
      refine (HS2.out _ ((Ext.refl _).drewN _)).mono ?_; rintro e w1 ⟨rfl, m2, rfl⟩
      go_wp2
      go_ret
      exact ⟨ret_bool HR2.out.symm, HX.out.drewN _⟩

def toldB (b : Bool) : Int := if b then 1 else 0
set_option maxHeartbeats 1000000 in
theorem rTold_any (A : Option Addr) (n c : Nat) (xs : List Bool) (w : World) (h : Sl w A n (xs.map Bv)) (hn : n ≤ 1000) :
    Calls Try.prog 32 #[.slice A n c] w fun e w' => ∃ v, e = .returned v ∧ w'.ownsRow w.heap.size 3 1 v n ((xs.map toldB).map I) ∧ Ext w w' := by
  have H := Lib.hid h; clear h
  go_enter Try.func32, Try.ntmps32
  go_wp2
  go_loopw [3, 4] (fun v i wr => ∃ (k : Nat) (zs : List Int), k ≤ n ∧ i = .int .i64 k ∧ Ext w wr ∧ wr.ownsRow w.heap.size 3 1 v k (zs.map I) ∧ zs ++ (xs.drop k).map toldB = xs.map toldB) (fun _ i _ => n - (intOf i).toNat)
  case atStart => exact ⟨0, [], Nat.zero_le _, rfl, Ext.refl _, World.ownsRow_nil _ _ _ _, rfl⟩
  case round =>
    obtain ⟨k, zs, hk, rfl, hext, hown, hM⟩ := hrel
    by_cases hlt : k < n
    · obtain ⟨b, off, x, rfl, hc0, hx⟩ := H.out.at_ hlt
      have hc := hext.keeps _ _ hc0
      have hl := (List.getElem?_eq_some_iff.1 hx).1
      have hd : xs.drop k = x :: xs.drop (k + 1) := by
        rw [List.drop_eq_getElem_cons hl]; congr 1; rw [List.getElem?_eq_getElem hl] at hx; injection hx
      have hb := lt_of_cell hc
      rw [hd, List.map_cons] at hM
      have HM := Lib.hid hM; have HO := Lib.hid hown
      clear hM hown hd hx hc0
      cases x
      · go_wp2_with (at_builtin; refine wpList_push rfl (.tmp 18) (.tmp 19) 24 3 rfl tab_int' Try.underlying24 rfl (by omega) w wr hext _ k _ rfl HO.out [I 0] rfl rfl rfl (by simp [Value.oneCell']) (by unfold maxLen; omega) (by omega) ?_; intro v' w2 hown2 hx3 _)
        go_roundw
        case rel => exact ⟨k + 1, zs ++ [0], by omega, by go_num, hx3, by simpa using hown2, by rw [← HM.out]; simp [toldB]⟩
        case measure => simp [intOf]; omega
      · go_wp2_with (at_builtin; refine wpList_push rfl (.tmp 15) (.tmp 16) 24 3 rfl tab_int' Try.underlying24 rfl (by omega) w wr hext _ k _ rfl HO.out [I 1] rfl rfl rfl (by simp [Value.oneCell']) (by unfold maxLen; omega) (by omega) ?_; intro v' w2 hown2 hx3 _)
        go_roundw
        case rel => exact ⟨k + 1, zs ++ [1], by omega, by go_num, hx3, by simpa using hown2, by rw [← HM.out]; simp [toldB]⟩
        case measure => simp [intOf]; omega
    · have hxn : xs.drop k = [] := List.drop_eq_nil_of_le (by have := H.out.len; omega)
      have hkn : k = n := by omega
      subst hkn
      have hz : zs = xs.map toldB := by rw [← hM, hxn]; simp
      subst hz
      have HO := Lib.hid hown
      clear hM hown
      go_wp2
      go_ret
      exact ⟨_, rfl, HO.out, hext⟩
end Go.Proofs.Ytejpnbomlnifkaa
