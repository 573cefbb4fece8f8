/- The head of the translation: which words it opens with, and the facts of each row that hang on them. -/
import Derived.Test.YtejpnbomlnifkaaRowAid
namespace Go.Proofs.Ytejpnbomlnifkaa
set_option linter.unusedVariables false
set_option linter.unusedSimpArgs false
def headH : List Nat := [104, 97, 114, 110, 101, 115, 115]
def headS : List Nat := [49, 100, 55, 98, 54, 102, 54, 49, 57, 50, 53, 56, 102, 56, 50, 98, 57, 51, 51, 54, 57, 52, 102, 56, 50, 97, 100, 53, 98, 54, 100, 55, 98, 55, 100, 55, 54, 98, 50, 100, 51, 102, 102, 53, 98, 100, 50, 98, 55, 97, 100, 55, 50, 49, 51, 57, 100, 48, 99, 48, 99, 99, 56, 52]
def headC : List Nat := [99, 117, 116]
def headR : List Nat := [97, 116, 32, 108, 105, 110, 99, 104, 112, 105, 110, 47, 108, 105, 110, 99, 104, 112, 105, 110, 108, 97, 119, 46, 78, 101, 116, 84, 114, 117, 101, 32, 108, 105, 110, 99, 104, 112, 105, 110, 47, 108, 105, 110, 99, 104, 112, 105, 110, 108, 97, 119, 46, 87, 97, 108, 107, 84, 101, 108, 108, 115, 32, 108, 105, 110, 99, 104, 112, 105, 110, 47, 108, 105, 110, 99, 104, 112, 105, 110, 108, 97, 119, 46, 87, 97, 108, 107, 83, 116, 101, 112, 115, 32, 108, 105, 110, 99, 104, 112, 105, 110, 47, 108, 105, 110, 99, 104, 112, 105, 110, 108, 97, 119, 46, 87, 97, 108, 107, 84, 114, 117, 101]
def headAll : List Nat := headH ++ 32 :: (headS ++ 32 :: (headC ++ 32 :: headR))
theorem head_is : Try.prog.initOrder = String.ofList (headAll.map Char.ofNat) := by kernel_rfl

theorem words_cons (a b : List Char) (h : a.all (fun c => c != Char.ofNat 32) = true) : wordsSigns (a ++ Char.ofNat 32 :: b) = a :: wordsSigns b := by
  induction a with
  | nil => rfl
  | cons c a ih =>
    simp only [List.all_cons, Bool.and_eq_true, bne_iff_ne] at h
    have hc : c ≠ Char.ofNat 32 := h.1
    have e : wordsSigns (c :: (a ++ Char.ofNat 32 :: b)) = (match wordsSigns (a ++ Char.ofNat 32 :: b) with | w :: ws => (c :: w) :: ws | [] => [[c]]) := by
      rw [wordsSigns] <;> first | rfl | (intro e; exact hc e) | exact hc
    rw [List.cons_append, e, ih h.2]
theorem head_words : wordsSigns Try.prog.initOrder.toList = headH.map Char.ofNat :: headS.map Char.ofNat :: headC.map Char.ofNat :: wordsSigns (headR.map Char.ofNat) := by
  rw [head_is, String.toList_ofList]
  unfold headAll
  simp only [List.map_append, List.map_cons]
  rw [words_cons _ _ (by decide +kernel), words_cons _ _ (by decide +kernel), words_cons _ _ (by decide +kernel)]
theorem head_behind : behindMainWord (wordsSigns Try.prog.initOrder.toList) = headC.map Char.ofNat :: wordsSigns (headR.map Char.ofNat) := by
  rw [head_words]
  simp only [behindMainWord]
  rw [if_pos (by decide +kernel)]
theorem head_cut : behindMainWord (wordsSigns Try.prog.initOrder.toList) = "cut".toList :: wordsSigns (headR.map Char.ofNat) := by
  rw [head_behind]; congr 1
theorem strip_cut (R : List (List Char)) : stripLifts liftWords ("cut".toList :: R) = ([], "cut".toList :: R) := by rfl
theorem later : Try.prog.laysLater = false := by kernel_rfl
theorem reflects : Try.prog.bearsReflect = false := by kernel_rfl
theorem doors : Try.prog.doorFits [] = true := by kernel_rfl
theorem mayEnter_of {P : Program} {R : List (List Char)} (h : behindMainWord (wordsSigns P.initOrder.toList) = "cut".toList :: R) (h1 : P.laysLater = false) (h2 : P.bearsReflect = false) (h3 : P.doorFits [] = true) : P.mayEnter = true := by
  unfold Program.mayEnter
  rw [h]
  simp only [strip_cut, h1, h2, h3]
  simp
theorem liftsFinal_of {P : Program} {R : List (List Char)} (h : behindMainWord (wordsSigns P.initOrder.toList) = "cut".toList :: R) : P.liftsFinal = false := by
  unfold Program.liftsFinal Program.headLifts
  rw [h]
  simp only [strip_cut]
  simp
theorem make_of {P : Program} {R : List (List Char)} (h : behindMainWord (wordsSigns P.initOrder.toList) = "cut".toList :: R) : P.make = some .cut := by
  unfold Program.make
  rw [h]
  simp
theorem may_enter : Try.prog.mayEnter = true := mayEnter_of head_cut later reflects doors
theorem lifts_final : Try.prog.liftsFinal = false := liftsFinal_of head_cut
theorem make_cut : Try.prog.make = some .cut := make_of head_cut
end Go.Proofs.Ytejpnbomlnifkaa
