/- A program's text, by the program. -/
import Derived.Test.YtncakjhianmekaaTextShow
import Derived.Test.YtncakjhianmekaaMapStr
import Derived.RegionTactic
import Derived.Deep.DeepCutAuto
import Derived.Deep.RegionHeld3
namespace Go.Proofs.Ytncakjhianmekaa
set_option linter.unusedVariables false
set_option linter.unusedSimpArgs false
open Go.RowKit

def pickT (kd : Int) (sg : Int) (one two : List UInt8) : List UInt8 :=
  if kd = 8 then wWas ++ [letter 65 sg] ++ (wThen ++ one ++ wElse ++ two ++ wEnd)
  else if kd = 7 then wIf ++ [letter 120 sg] ++ (wThen ++ one ++ wElse ++ two ++ wEnd)
  else if kd = 6 then wOpen ++ one ++ wBar ++ two ++ wClose
  else if kd = 5 then wOpen ++ one ++ wSemi ++ two ++ wClose
  else if kd = 4 then wAwait ++ [letter 120 sg]
  else if kd = 3 then wEmit ++ [letter 65 sg]
  else if kd = 2 then wHalt else if kd = 1 then wPause else if kd = 0 then wNothing else []
theorem pick_leaf {x : PNode} (h : x.kind = 0 ∨ x.kind = 1 ∨ x.kind = 2 ∨ x.kind = 3 ∨ x.kind = 4) : pickT x.kind x.sig [] [] = textT (.leaf x) := by
  obtain ⟨kd, sg⟩ := x
  simp only at h
  rcases h with rfl | rfl | rfl | rfl | rfl <;> simp [pickT, textT, leafText]
theorem pick_two {x : PNode} (a b : Tr) (h : x.kind = 5 ∨ x.kind = 6 ∨ x.kind = 7 ∨ x.kind = 8) : pickT x.kind x.sig (textT a) (textT b) = textT (.two x a b) := by
  obtain ⟨kd, sg⟩ := x
  simp only at h
  rcases h with rfl | rfl | rfl | rfl <;> simp [pickT, textT, twoText]
theorem strV {x : ByteArray} {l : List UInt8} (h : x = ⟨l.toArray⟩) : Value.string x = S l := by rw [h]

set_option maxRecDepth 100000 in
set_option maxHeartbeats 4000000 in
theorem node_step (A : Option Addr) (n c : Nat) (p : List PNode) (hn : n ≤ 60000) (k : Nat) (x : PNode) (ta tb : List UInt8) (w : World) (h : SlN w A n p) (hx : p[k]? = some x) (hsg : x.sig = 0 ∨ x.sig = 1 ∨ x.sig = 2)
    (hkd : 0 ≤ x.kind ∧ x.kind ≤ 8) (la : ta.length ≤ 2000000) (lb : tb.length ≤ 2000000)
    (hr : (two x.kind = false ∧ ta = [] ∧ tb = []) ∨ (two x.kind = true ∧ (∀ Q, SlN Q A n p → Calls Try.prog 13 #[.slice A n c, I (ofP p k).1] Q fun e w' => e = .returned (S ta) ∧ Ext Q w') ∧ (∀ Q, SlN Q A n p → Calls Try.prog 13 #[.slice A n c, I (ofP p k).2.1] Q fun e w' => e = .returned (S tb) ∧ Ext Q w'))) :
    Calls Try.prog 13 #[.slice A n c, I k] w fun e w' => e = .returned (S (pickT x.kind x.sig ta tb)) ∧ Ext w w' := by
  have hkn : k < n := by have := h.1; have := (List.getElem?_eq_some_iff.1 hx).1; omega
  have PO := Lib.hid (fun Q (hQ : SlN Q A n p) => progOf_any A n c p k Q hQ hn hkn)
  have H := Lib.hid h
  obtain ⟨b, off, rfl, g0, g1⟩ := h.2 k x hx
  have hmm := @run_makeMap Try.prog
  obtain ⟨kd, sg⟩ := x
  simp only at hsg g0 g1 hr hkd
  obtain ⟨w1, hw1⟩ : ∃ w1, w1 = w.alloc (.cells #[I kd, I sg] 37) := ⟨_, rfl⟩
  have hx1 : Ext w w1 := by rw [hw1]; exact (Ext.refl _).alloc _
  have d0 : w1.cell? ⟨w.heap.size, 0, none⟩ = some (I kd) := by rw [hw1, World.cell?_alloc_new]; rfl
  have d1 : w1.cell? ⟨w.heap.size, 1, none⟩ = some (I sg) := by rw [hw1, World.cell?_alloc_new]; rfl
  have hwf : (Lit.int .i64 kd).wf = true := WalkArith.wf_i64 (by omega)
  generalize ofP p k = O at *
  have X1 := Lib.hid hx1; have HW1 := Lib.hid hw1; have D0 := Lib.hid d0; have D1 := Lib.hid d1; have HR := Lib.hid hr; have HWF := Lib.hid hwf; have LA := Lib.hid la; have LB := Lib.hid lb
  clear hx h hx1 hw1 d0 d1 hr hkd hwf la lb
  go_enter Try.func13, Try.ntmps13
  go_upto_region 2 with fail
  rw [← HW1.out]
  have d1 := D1.out
  go_cut [6, 7] (fun s6 s7 wx => s6 = S [letter 120 sg] ∧ s7 = S [letter 65 sg] ∧ Ext w1 wx)
  case first =>
    go_region_held3 (fun w' => w'.cell? ⟨w.heap.size, 1, none⟩ = some (I sg)) (exact d1)
      (first
        | (go_at_call 24; refine (letter_any 120 sg (.inr rfl) hsg _).mono ?_; rintro e w' ⟨rfl, rfl⟩)
        | (go_at_call 24; refine (letter_any 65 sg (.inl rfl) hsg _).mono ?_; rintro e w' ⟨rfl, rfl⟩))
    all_goals go_wp2_with fail
    all_goals go_meet
    all_goals exact ⟨rfl, rfl, (Ext.refl _).drew⟩
  case rest =>
  obtain ⟨rfl, rfl, xc⟩ := hcut
  rename World => wB
  have XC := Lib.hid xc
  have e0 := xc.keeps _ _ D0.out
  have E0 := Lib.hid e0
  clear xc d1 g0 g1 hsg
  go_wp2_with fail
  refine (PO.out wB (H.out.keep (X1.out.trans XC.out).keeps)).mono ?_; rintro e w' ⟨rfl, rfl⟩
  go_wp2_with fail
  refine (two_any _ _).mono ?_; rintro e w' ⟨rfl, rfl⟩
  go_upto_if 33 with fail
  go_cut [8, 9] (fun s8 s9 wx => s8 = S ta ∧ s9 = S tb ∧ Ext wB wx)
  case first =>
    have hr := HR.out
    rcases hr with ⟨h2, rfl, rfl⟩ | ⟨h2, ha, hb⟩
    · rw [h2]
      go_wp2_with fail
      go_meet
      exact ⟨rfl, rfl, Ext.refl _⟩
    · rw [h2]
      have HA := Lib.hid ha; have HB := Lib.hid hb
      clear ha hb
      go_wp2_with fail
      refine (HA.out wB (H.out.keep (X1.out.trans XC.out).keeps)).mono ?_; rintro e w2 ⟨rfl, x2⟩
      go_wp2_with fail
      refine (HB.out w2 (H.out.keep ((X1.out.trans XC.out).trans x2).keeps)).mono ?_; rintro e w3 ⟨rfl, x3⟩
      go_wp2_with fail
      go_meet
      exact ⟨rfl, rfl, x2.trans x3⟩
  case rest =>
  obtain ⟨rfl, rfl, xd⟩ := hcut
  have e1 := xd.keeps _ _ E0.out
  have E1 := Lib.hid e1
  have XD := Lib.hid ((X1.out.trans XC.out).trans xd)
  have hbw : w.heap.size < wc.heap.size := lt_of_cell e1
  have f1 : (wc.alloc (.map #[] 0)).cell? ⟨w.heap.size, 0, none⟩ = some (I kd) := (Keeps.alloc _ _) _ _ e1
  clear xd e0
  have la := LA.out; have lb := LB.out
  go_wp2_with (first
      | (refine wpList_lookupS rfl _ _ rfl _ _ _ rfl hv8 kd rfl HWF.out (pickT kd sg ta tb) (by simp only [pickT]) ?_)
      | (refine wpList_insertS rfl _ _ _ rfl _ _ _ rfl hv7 (by unfold maxLen; omega) 8 (wWas ++ [letter 65 sg] ++ (wThen ++ ta ++ wElse ++ tb ++ wEnd)) rfl (strV (by simp only [str_app]; rfl)) (by decide) (by unfold maxLen; simp [wEmit, wAwait, wOpen, wSemi, wClose, wBar, wIf, wWas, wThen, wElse, wEnd]; try omega) ?_; intro v8 hv8 hg8; have e10 := hg8.cell (a := ⟨w.heap.size, 0, none⟩) e9 (by simp; omega))
      | (refine wpList_insertS rfl _ _ _ rfl _ _ _ rfl hv6 (by unfold maxLen; omega) 7 (wIf ++ [letter 120 sg] ++ (wThen ++ ta ++ wElse ++ tb ++ wEnd)) rfl (strV (by simp only [str_app]; rfl)) (by decide) (by unfold maxLen; simp [wEmit, wAwait, wOpen, wSemi, wClose, wBar, wIf, wWas, wThen, wElse, wEnd]; try omega) ?_; intro v7 hv7 hg7; have e9 := hg7.cell (a := ⟨w.heap.size, 0, none⟩) e8 (by simp; omega))
      | (refine wpList_insertS rfl _ _ _ rfl _ _ _ rfl hv5 (by unfold maxLen; omega) 6 (wOpen ++ ta ++ wBar ++ tb ++ wClose) rfl (strV (by simp only [str_app]; rfl)) (by decide) (by unfold maxLen; simp [wEmit, wAwait, wOpen, wSemi, wClose, wBar, wIf, wWas, wThen, wElse, wEnd]; try omega) ?_; intro v6 hv6 hg6; have e8 := hg6.cell (a := ⟨w.heap.size, 0, none⟩) e7 (by simp; omega))
      | (refine wpList_insertS rfl _ _ _ rfl _ _ _ rfl hv4 (by unfold maxLen; omega) 5 (wOpen ++ ta ++ wSemi ++ tb ++ wClose) rfl (strV (by simp only [str_app]; rfl)) (by decide) (by unfold maxLen; simp [wEmit, wAwait, wOpen, wSemi, wClose, wBar, wIf, wWas, wThen, wElse, wEnd]; try omega) ?_; intro v5 hv5 hg5; have e7 := hg5.cell (a := ⟨w.heap.size, 0, none⟩) e6 (by simp; omega))
      | (refine wpList_insertS rfl _ _ _ rfl _ _ _ rfl hv3 (by unfold maxLen; omega) 4 (wAwait ++ [letter 120 sg]) rfl (strV (by simp only [str_app]; rfl)) (by decide) (by unfold maxLen; simp [wEmit, wAwait, wOpen, wSemi, wClose, wBar, wIf, wWas, wThen, wElse, wEnd]; try omega) ?_; intro v4 hv4 hg4; have e6 := hg4.cell (a := ⟨w.heap.size, 0, none⟩) e5 (by simp; omega))
      | (refine wpList_insertS rfl _ _ _ rfl _ _ _ rfl hv2 (by unfold maxLen; omega) 3 (wEmit ++ [letter 65 sg]) rfl (strV (by simp only [str_app]; rfl)) (by decide) (by unfold maxLen; simp [wEmit, wAwait, wOpen, wSemi, wClose, wBar, wIf, wWas, wThen, wElse, wEnd]; try omega) ?_; intro v3 hv3 hg3; have e5 := hg3.cell (a := ⟨w.heap.size, 0, none⟩) e4 (by simp; omega))
      | (refine wpList_insertS rfl _ _ _ rfl _ _ _ rfl hv1 (by unfold maxLen; omega) 2 wHalt rfl rfl (by decide) (by decide) ?_; intro v2 hv2 hg2; have e4 := hg2.cell (a := ⟨w.heap.size, 0, none⟩) e3 (by simp; omega))
      | (refine wpList_insertS rfl _ _ _ rfl _ _ _ rfl hv0 (by unfold maxLen; omega) 1 wPause rfl rfl (by decide) (by decide) ?_; intro v1 hv1 hg1; have e3 := hg1.cell (a := ⟨w.heap.size, 0, none⟩) e2 (by simp; omega))
      | (refine wpList_insertS rfl _ _ _ rfl _ _ _ rfl (MapS.made wc) (by unfold maxLen; omega) 0 wNothing rfl rfl (by decide) (by decide) ?_; intro v0 hv0 hg0; have e2 := hg0.cell (a := ⟨w.heap.size, 0, none⟩) f1 (by simp; omega))
      | go_in)
  go_ret
  refine ⟨rfl, ?_⟩
  have hx1 : Ext wc (wc.alloc (.map #[] 0)) := (Ext.refl wc).alloc _
  have hg := (((((((hg0.trans hg1).trans hg2).trans hg3).trans hg4).trans hg5).trans hg6).trans hg7).trans hg8
  exact XD.out.trans (Below.grown hx1 hg (by simp) (fun j hj => by injection hj with hj; omega))

set_option maxRecDepth 100000 in
set_option maxHeartbeats 4000000 in
theorem node_any (A : Option Addr) (n c : Nat) (p : List PNode) (hn : n ≤ 60000) : ∀ (t : Tr) (k : Nat) (w : World), SlN w A n p → TreeAt p k t → t.ok → (∀ x ∈ t.flat, goodN x) →
    Calls Try.prog 13 #[.slice A n c, I k] w fun e w' => e = .returned (S (textT t)) ∧ Ext w w'
  | .leaf x, k, w, h, ht, ok, hg => by
    have gx := hg x (by simp [Tr.flat])
    have hkk := good_leaf' (by simpa [Tr.ok] using ok) gx
    have hs := leaf_sig' gx
    rw [← pick_leaf hkk]
    exact node_step A n c p hn k x [] [] w h ht.top (by omega) (by omega) (by simp) (by simp) (.inl ⟨by simpa [Tr.ok] using ok, rfl, rfl⟩)
  | .two x a b, k, w, h, ht, ok, hg => by
    have gx := hg x (by simp [Tr.flat])
    obtain ⟨hk2, oa, ob⟩ := ok
    have hkk := good_two' hk2 gx
    have hs := leaf_sig' gx
    have hle := ht.le
    have hpl : p.length = n := h.1
    simp only [Tr.size] at hle
    have la : (textT a).length ≤ 2000000 := by have := text_len a; omega
    have lb : (textT b).length ≤ 2000000 := by have := text_len b; omega
    have h1 := ht.first.one oa
    have hO : (ofP p k).1 = (k : Int) + 1 ∧ (ofP p k).2.1 = ((k + 1 + a.size : Nat) : Int) := by
      unfold ofP; rw [ht.top]; simp only [Tr.top, hk2, if_true]; exact ⟨trivial, by rw [show ((k : Int) + 1) = ((k + 1 : Nat) : Int) from by omega, h1]; omega⟩
    rw [← pick_two a b hkk]
    refine node_step A n c p hn k x _ _ w h ht.top (by omega) (by omega) la lb (.inr ⟨hk2, fun Q hQ => ?_, fun Q hQ => ?_⟩)
    · rw [hO.1]; exact node_any A n c p hn a (k + 1) Q hQ ht.first oa (fun y hy => hg y (by simp [Tr.flat, hy]))
    · rw [hO.2]; exact node_any A n c p hn b (k + 1 + a.size) Q hQ ht.second ob (fun y hy => hg y (by simp [Tr.flat, hy]))
end Go.Proofs.Ytncakjhianmekaa
