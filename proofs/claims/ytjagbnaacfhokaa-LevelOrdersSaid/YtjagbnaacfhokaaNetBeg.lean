/- net.First, net.Begin, R.BeginOf, net.Nexts, R.nexts walked. -/
import Derived.Test.YtjagbnaacfhokaaNetChk2
namespace Go.Proofs.Ytjagbnaacfhokaa
set_option linter.unusedVariables false
set_option linter.unusedSimpArgs false
open Go.RowKit

theorem firstM_cons (r : StoreM) (l : List StoreM) : (r :: l).map (fun r => if r.fst then (1 : Int) else 0) = (if r.fst then 1 else 0) :: l.map (fun r => if r.fst then (1 : Int) else 0) := rfl

set_option maxHeartbeats 1000000 in
theorem first_any (i : Int) (GA : Option Addr) (gn gc : Nat) (RA : Option Addr) (rn rc : Nat) (OA : Option Addr) (on oc : Nat) (N : NetM) (w : World)
    (h : NetC w i GA gn gc RA rn rc OA on oc N) (hr : rn ≤ 20) :
    Calls Try.prog 91 #[netV i GA gn gc RA rn rc OA on oc] w fun e w' => ∃ v, e = .returned v ∧ w'.ownsRow w.heap.size 3 1 v rn ((firstM N).map I) ∧ Ext w w' := by
  have H := Lib.hid h.regs; clear h
  go_enter Try.func91, Try.ntmps91
  go_wp2
  go_loopw [3, 10] (fun v j wr => ∃ (k : Nat) (zs : List Int), k ≤ rn ∧ j = .int .i64 k ∧ Ext w wr ∧ wr.ownsRow w.heap.size 3 1 v k (zs.map I) ∧ zs ++ firstM { N with regs := N.regs.drop k } = firstM N) (fun _ j _ => rn - (intOf j).toNat)
  case atStart => exact ⟨0, [], Nat.zero_le _, rfl, (Ext.refl _).alloc _, World.ownsRow_nil _ _ _ _, rfl⟩
  case round =>
    obtain ⟨k, zs, hk, rfl, hext, hown, hM⟩ := hrel
    by_cases hlt : k < rn
    · obtain ⟨b, off, r, rfl, g0, g1, hd, -⟩ := H.out.next hlt
      have c0 := hext.keeps _ _ g0; have c1 := hext.keeps _ _ g1
      simp only [firstM, hd, List.map_cons] at hM
      have HM := Lib.hid hM
      have HO2 := Lib.hid (own_ext hown ((Ext.refl _).alloc (.cells #[Bv r.fst, I r.next] 78)))
      clear hM hd g0 g1 hown
      obtain ⟨rb, rx⟩ := r
      cases rb
      · go_wp2_with (at_builtin; refine wpList_pushB rfl (.tmp 16) (.tmp 18) 24 3 rfl tab_int' Try.underlying24 rfl (by omega) w _ (hext.alloc (.cells #[Bv false, I rx] 78)) _ k _ rfl HO2.out [I 0] rfl rfl _ rfl (by simp) (by simp [Value.oneCell']) (by unfold maxLen; omega) (by omega) ?_; intro v' w2 hown2 hx3 _)
        go_roundw
        case rel => exact ⟨k + 1, zs ++ [0], by omega, by go_num, hx3, by simpa using hown2, by rw [show firstM N = _ from HM.out.symm]; simp [firstM]⟩
        case measure => simp [intOf]; omega
      · go_wp2_with (at_builtin; refine wpList_pushB rfl (.tmp 16) (.tmp 18) 24 3 rfl tab_int' Try.underlying24 rfl (by omega) w _ (hext.alloc (.cells #[Bv true, I rx] 78)) _ k _ rfl HO2.out [I 1] rfl rfl _ rfl (by simp) (by simp [Value.oneCell']) (by unfold maxLen; omega) (by omega) ?_; intro v' w2 hown2 hx3 _)
        go_roundw
        case rel => exact ⟨k + 1, zs ++ [1], by omega, by go_num, hx3, by simpa using hown2, by rw [show firstM N = _ from HM.out.symm]; simp [firstM]⟩
        case measure => simp [intOf]; omega
    · have hkn : k = rn := by omega
      subst hkn
      have hz : zs = firstM N := by rw [← hM]; simp [firstM, H.out.drop_end hlt]
      subst hz
      have HO := Lib.hid hown
      clear hM hown
      go_wp2
      go_ret
      exact ⟨_, rfl, HO.out, hext⟩

set_option maxHeartbeats 1000000 in
theorem beginOf_any (i : Int) (GA : Option Addr) (gn gc : Nat) (RA : Option Addr) (rn rc : Nat) (OA : Option Addr) (on oc : Nat) (N : NetM) (w : World)
    (h : NetC w i GA gn gc RA rn rc OA on oc N) (hr : rn ≤ 20) :
    Calls Try.prog 101 #[netV i GA gn gc RA rn rc OA on oc] w fun e w' => ∃ v, e = .returned v ∧ w'.ownsRow w.heap.size 3 1 v rn ((firstM N).map I) ∧ Ext w w' := by
  have H := Lib.hid h.regs; clear h
  obtain ⟨W, hW⟩ : ∃ W, W = w.alloc (.cells #[I i, .slice GA gn gc, .slice RA rn rc, .slice OA on oc] 26) := ⟨_, rfl⟩
  have hxW : Ext w W := by rw [hW]; exact (Ext.refl _).alloc _
  have HBox : Hid (NetBox W w.heap.size i GA gn gc RA rn rc OA on oc) := by unfold Hid; rw [hW]; exact NetBox.new w i GA gn gc RA rn rc OA on oc _
  have HW := Lib.hid hW; clear hW
  go_enter Try.func101, Try.ntmps101
  go_wp2
  rw [← HW.out]
  go_loopw [3, 4] (fun v j wr => ∃ (k : Nat) (zs : List Int), k ≤ rn ∧ j = .int .i64 k ∧ Ext W wr ∧ wr.ownsRow W.heap.size 3 1 v k (zs.map I) ∧ zs ++ firstM { N with regs := N.regs.drop k } = firstM N) (fun _ j _ => rn - (intOf j).toNat)
  case atStart => exact ⟨0, [], Nat.zero_le _, rfl, Ext.refl _, World.ownsRow_nil _ _ _ _, rfl⟩
  case round =>
    obtain ⟨k, zs, hk, rfl, hext, hown, hM⟩ := hrel
    obtain ⟨q0, q1, q2, q3⟩ := NetBox.keep HBox.out hext.keeps
    have hexw := hxW.trans hext
    by_cases hlt : k < rn
    · obtain ⟨b, off, r, rfl, g0, g1, hd, -⟩ := H.out.next hlt
      have c0 := hexw.keeps _ _ g0; have c1 := hexw.keeps _ _ g1
      simp only [firstM, hd, List.map_cons] at hM
      have HM := Lib.hid hM
      have HO2 := Lib.hid hown
      clear hM hd g0 g1 hown
      obtain ⟨rb, rx⟩ := r
      cases rb
      · go_wp2_with (at_builtin; refine wpList_push rfl (.tmp 19) (.tmp 21) 24 3 rfl tab_int' Try.underlying24 rfl (by omega) W wr hext _ k _ rfl HO2.out [I 0] rfl rfl rfl (by simp [Value.oneCell']) (by unfold maxLen; omega) (by omega) ?_; intro v' w2 hown2 hx3 _)
        go_roundw
        case rel => exact ⟨k + 1, zs ++ [0], by omega, by go_num, hx3, by simpa using hown2, by rw [show firstM N = _ from HM.out.symm]; simp [firstM]⟩
        case measure => simp [intOf]; omega
      · go_wp2_with (at_builtin; refine wpList_push rfl (.tmp 19) (.tmp 21) 24 3 rfl tab_int' Try.underlying24 rfl (by omega) W wr hext _ k _ rfl HO2.out [I 1] rfl rfl rfl (by simp [Value.oneCell']) (by unfold maxLen; omega) (by omega) ?_; intro v' w2 hown2 hx3 _)
        go_roundw
        case rel => exact ⟨k + 1, zs ++ [1], by omega, by go_num, hx3, by simpa using hown2, by rw [show firstM N = _ from HM.out.symm]; simp [firstM]⟩
        case measure => simp [intOf]; omega
    · have hkn : k = rn := by omega
      subst hkn
      have hz : zs = firstM N := by rw [← hM]; simp [firstM, H.out.drop_end hlt]
      subst hz
      have HO := Lib.hid (own_base hown hxW.size)
      clear hM hown
      go_wp2
      go_ret
      exact ⟨_, rfl, HO.out, hexw⟩

theorem netBegin_err (i : Int) (GA : Option Addr) (gn gc : Nat) (RA : Option Addr) (rn rc : Nat) (OA : Option Addr) (on oc : Nat) (N : NetM) (w : World)
    (h : NetC w i GA gn gc RA rn rc OA on oc N) (e : Int) (he : checkN N = e) (h0 : (e != 0) = true) :
    Calls Try.prog 73 #[netV i GA gn gc RA rn rc OA on oc] w fun e' w' => e' = .returned (Pr (.slice none 0 0) (I e)) ∧ Ext w w' := by
  have HE := Lib.hid he; have HC := Lib.hid (h.keep (Keeps.alloc w (.cells #[I i, .slice GA gn gc, .slice RA rn rc, .slice OA on oc] 26))); clear he h
  go_enter Try.func73, Try.ntmps73
  go_wp2_with fail
  refine (netCheck_any i GA gn gc RA rn rc OA on oc N _ HC.out).mono ?_; rintro e' w1 ⟨rfl, h1⟩; rw [HE.out]
  go_wp2
  go_ret2
  exact ⟨rfl, ((Ext.refl w).alloc _).trans h1⟩
end Go.Proofs.Ytjagbnaacfhokaa
