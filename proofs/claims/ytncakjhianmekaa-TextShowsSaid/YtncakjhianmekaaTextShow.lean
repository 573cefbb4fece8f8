/- A program's text, by the reference. -/
import Derived.Test.YtncakjhianmekaaTextLib
import Derived.Test.YtncakjhianmekaaPg4
namespace Go.Proofs.Ytncakjhianmekaa
set_option linter.unusedVariables false
set_option linter.unusedSimpArgs false
open Go.RowKit

theorem str_app (a b : List UInt8) : (⟨a.toArray⟩ : ByteArray) ++ ⟨b.toArray⟩ = ⟨(a ++ b).toArray⟩ := by
  apply ByteArray.ext
  simp [ByteArray.data_append]
theorem ret_str {a : ByteArray} {l : List UInt8} (h : a = ⟨l.toArray⟩) : Ending.returned (.string a) = .returned (S l) := by rw [h]

set_option maxRecDepth 100000 in
set_option maxHeartbeats 4000000 in
theorem rnode_any (A : Option Addr) (n c : Nat) (p : List PNode) (hn : n ≤ 60000) (hK : p.any badKind = false) : ∀ (t : Tr) (k : Nat) (w : World), SlN w A n p → TreeAt p k t → t.ok → (∀ x ∈ t.flat, goodN x) →
    Calls Try.prog 7 #[.slice A n c, I k] w fun e w' => e = .returned (S (textT t)) ∧ Ext w w'
  | .leaf x, k, w, h, ht, ok, hg => by
    have hx : p[k]? = some x := ht.top
    have gx := hg x (by simp [Tr.flat])
    have hkk := good_leaf' (by simpa [Tr.ok] using ok) gx
    have hs := leaf_sig' gx
    obtain ⟨b, off, rfl, g0, g1⟩ := h.2 k x hx
    obtain ⟨kd, sg⟩ := x
    have hkn : k < n := by have := ht.le; have := h.1; simp [Tr.size] at *; omega
    have hsg : sg = 0 ∨ sg = 1 ∨ sg = 2 := by simp at hs; omega
    simp only at hkk g0 g1
    have G0 := Lib.hid g0; have G1 := Lib.hid g1
    clear g0 g1 hs hx gx ht ok hg h
    rcases hkk with rfl | rfl | rfl | rfl | rfl
    · have g0 := G0.out; have g1 := G1.out
      go_enter Try.func7, Try.ntmps7
      go_wp2
      go_ret
      exact ⟨rfl, (Ext.refl _).alloc _⟩
    · have g0 := G0.out; have g1 := G1.out
      go_enter Try.func7, Try.ntmps7
      go_wp2
      go_ret
      exact ⟨rfl, (Ext.refl _).alloc _⟩
    · have g0 := G0.out; have g1 := G1.out
      go_enter Try.func7, Try.ntmps7
      go_wp2
      go_ret
      exact ⟨rfl, (Ext.refl _).alloc _⟩
    · have g0 := G0.out; have g1 := G1.out
      go_enter Try.func7, Try.ntmps7
      go_wp2_with fail
      refine (rsign_any 65 sg (.inl rfl) hsg _).mono ?_; rintro e w1 ⟨rfl, x1⟩
      go_wp2
      go_ret
      exact ⟨ret_str (str_app wEmit [letter 65 sg]), ((Ext.refl _).alloc _).trans x1⟩
    · have g0 := G0.out; have g1 := G1.out
      go_enter Try.func7, Try.ntmps7
      go_wp2_with fail
      refine (rsign_any 120 sg (.inr rfl) hsg _).mono ?_; rintro e w1 ⟨rfl, x1⟩
      go_wp2
      go_ret
      exact ⟨ret_str (str_app wAwait [letter 120 sg]), ((Ext.refl _).alloc _).trans x1⟩
  | .two x a b, k, w, h, ht, ok, hg => by
    have hx : p[k]? = some x := ht.top
    have gx := hg x (by simp [Tr.flat])
    obtain ⟨hk2, oa, ob⟩ := ok
    have hkk := good_two' hk2 gx
    have hs := leaf_sig' gx
    have hle := ht.le
    have hpl : p.length = n := h.1
    have iha := fun Q (hQ : SlN Q A n p) => rnode_any A n c p hn hK a (k + 1) Q hQ ht.first oa (fun y hy => hg y (by simp [Tr.flat, hy]))
    have ihb := fun Q (hQ : SlN Q A n p) => rnode_any A n c p hn hK b (k + 1 + a.size) Q hQ ht.second ob (fun y hy => hg y (by simp [Tr.flat, hy]))
    have h1 := ht.first.one oa
    have hsz := size_pos a; have hszb := size_pos b
    simp only [Tr.size] at hle
    have hkn : k + 1 + a.size < n := by omega
    have hk0 : k < n := by omega
    have hen := fun Q (hQ : SlN Q A n p) => end_any A n c p (k + 1) Q hQ (by omega) hK (by omega) (by rw [h1]; omega)
    have la : (textT a).length ≤ 2000000 := by have := text_len a; omega
    have lb : (textT b).length ≤ 2000000 := by have := text_len b; omega
    have ek : ((k + 1 : Nat) : Int) = (k : Int) + 1 := by omega
    have h1' : oneM p (((k + 1 : Nat)) : Int) = ((k + 1 + a.size : Nat) : Int) := by rw [h1]; omega
    simp only [h1'] at hen
    rw [ek] at iha hen
    have H := Lib.hid h
    obtain ⟨bb, off, rfl, g0, g1⟩ := h.2 k x hx
    obtain ⟨kd, sg⟩ := x
    have hsg : sg = 0 ∨ sg = 1 ∨ sg = 2 := by simp at hs; omega
    simp only at hkk g0 g1
    generalize k + 1 + a.size = k2 at *
    have G0 := Lib.hid g0; have G1 := Lib.hid g1; have IA := Lib.hid iha; have IB := Lib.hid ihb; have EN := Lib.hid hen
    clear g0 g1 hs hx gx ht hk2 oa ob hg h iha ihb hen h1 h1' ek hle hpl
    rcases hkk with rfl | rfl | rfl | rfl
    · have g0 := G0.out; have g1 := G1.out
      go_enter Try.func7, Try.ntmps7
      go_wp2_with fail
      refine (IA.out _ (H.out.keep (Keeps.alloc _ _))).mono ?_; rintro e w1 ⟨rfl, x1⟩
      have X1 := Lib.hid (((Ext.refl w).alloc _).trans x1)
      have c0 := x1.keeps ⟨w.heap.size, 0, none⟩ (I 5) (by rw [World.cell?_alloc_new]; rfl)
      have c1 := x1.keeps ⟨w.heap.size, 1, none⟩ (I sg) (by rw [World.cell?_alloc_new]; rfl)
      have C0 := Lib.hid c0; have C1 := Lib.hid c1; clear x1
      go_wp2_with fail
      refine (EN.out w1 (H.out.keep X1.out.keeps)).mono ?_; rintro e w1' ⟨rfl, rfl⟩
      go_wp2_with fail
      refine (IB.out w1 (H.out.keep X1.out.keeps)).mono ?_; rintro e w2 ⟨rfl, x2⟩
      have d0 := x2.keeps _ _ C0.out; have d1 := x2.keeps _ _ C1.out
      have X2 := Lib.hid (X1.out.trans x2); clear x2 c0 c1
      go_wp2
      go_ret
      exact ⟨ret_str (by simp only [str_app]; refine congrArg (fun l : List UInt8 => (⟨l.toArray⟩ : ByteArray)) ?_; simp [textT, twoText, wOpen, wClose, wSemi, wBar, wIf, wThen, wElse, wEnd, wWas]), X2.out⟩
    · have g0 := G0.out; have g1 := G1.out
      go_enter Try.func7, Try.ntmps7
      go_wp2_with fail
      refine (IA.out _ (H.out.keep (Keeps.alloc _ _))).mono ?_; rintro e w1 ⟨rfl, x1⟩
      have X1 := Lib.hid (((Ext.refl w).alloc _).trans x1)
      have c0 := x1.keeps ⟨w.heap.size, 0, none⟩ (I 6) (by rw [World.cell?_alloc_new]; rfl)
      have c1 := x1.keeps ⟨w.heap.size, 1, none⟩ (I sg) (by rw [World.cell?_alloc_new]; rfl)
      have C0 := Lib.hid c0; have C1 := Lib.hid c1; clear x1
      go_wp2_with fail
      refine (EN.out w1 (H.out.keep X1.out.keeps)).mono ?_; rintro e w1' ⟨rfl, rfl⟩
      go_wp2_with fail
      refine (IB.out w1 (H.out.keep X1.out.keeps)).mono ?_; rintro e w2 ⟨rfl, x2⟩
      have d0 := x2.keeps _ _ C0.out; have d1 := x2.keeps _ _ C1.out
      have X2 := Lib.hid (X1.out.trans x2); clear x2 c0 c1
      go_wp2
      go_ret
      exact ⟨ret_str (by simp only [str_app]; refine congrArg (fun l : List UInt8 => (⟨l.toArray⟩ : ByteArray)) ?_; simp [textT, twoText, wOpen, wClose, wSemi, wBar, wIf, wThen, wElse, wEnd, wWas]), X2.out⟩
    · have g0 := G0.out; have g1 := G1.out
      go_enter Try.func7, Try.ntmps7
      go_wp2_with fail
      refine (IA.out _ (H.out.keep (Keeps.alloc _ _))).mono ?_; rintro e w1 ⟨rfl, x1⟩
      have X1 := Lib.hid (((Ext.refl w).alloc _).trans x1)
      have c0 := x1.keeps ⟨w.heap.size, 0, none⟩ (I 7) (by rw [World.cell?_alloc_new]; rfl)
      have c1 := x1.keeps ⟨w.heap.size, 1, none⟩ (I sg) (by rw [World.cell?_alloc_new]; rfl)
      have C0 := Lib.hid c0; have C1 := Lib.hid c1; clear x1
      go_wp2_with fail
      refine (EN.out w1 (H.out.keep X1.out.keeps)).mono ?_; rintro e w1' ⟨rfl, rfl⟩
      go_wp2_with fail
      refine (IB.out w1 (H.out.keep X1.out.keeps)).mono ?_; rintro e w2 ⟨rfl, x2⟩
      have d0 := x2.keeps _ _ C0.out; have d1 := x2.keeps _ _ C1.out
      have X2 := Lib.hid (X1.out.trans x2); clear x2 c0 c1
      go_wp2_with fail
      refine (rsign_any 120 sg (.inr rfl) hsg _).mono ?_; rintro e w3 ⟨rfl, x3⟩
      go_wp2
      go_ret
      exact ⟨ret_str (by simp only [str_app]; refine congrArg (fun l : List UInt8 => (⟨l.toArray⟩ : ByteArray)) ?_; simp [textT, twoText, wOpen, wClose, wSemi, wBar, wIf, wThen, wElse, wEnd, wWas]), X2.out.trans x3⟩
    · have g0 := G0.out; have g1 := G1.out
      go_enter Try.func7, Try.ntmps7
      go_wp2_with fail
      refine (IA.out _ (H.out.keep (Keeps.alloc _ _))).mono ?_; rintro e w1 ⟨rfl, x1⟩
      have X1 := Lib.hid (((Ext.refl w).alloc _).trans x1)
      have c0 := x1.keeps ⟨w.heap.size, 0, none⟩ (I 8) (by rw [World.cell?_alloc_new]; rfl)
      have c1 := x1.keeps ⟨w.heap.size, 1, none⟩ (I sg) (by rw [World.cell?_alloc_new]; rfl)
      have C0 := Lib.hid c0; have C1 := Lib.hid c1; clear x1
      go_wp2_with fail
      refine (EN.out w1 (H.out.keep X1.out.keeps)).mono ?_; rintro e w1' ⟨rfl, rfl⟩
      go_wp2_with fail
      refine (IB.out w1 (H.out.keep X1.out.keeps)).mono ?_; rintro e w2 ⟨rfl, x2⟩
      have d0 := x2.keeps _ _ C0.out; have d1 := x2.keeps _ _ C1.out
      have X2 := Lib.hid (X1.out.trans x2); clear x2 c0 c1
      go_wp2_with fail
      refine (rsign_any 65 sg (.inl rfl) hsg _).mono ?_; rintro e w3 ⟨rfl, x3⟩
      go_wp2
      go_ret
      exact ⟨ret_str (by simp only [str_app]; refine congrArg (fun l : List UInt8 => (⟨l.toArray⟩ : ByteArray)) ?_; simp [textT, twoText, wOpen, wClose, wSemi, wBar, wIf, wThen, wElse, wEnd, wWas]), X2.out.trans x3⟩
end Go.Proofs.Ytncakjhianmekaa
