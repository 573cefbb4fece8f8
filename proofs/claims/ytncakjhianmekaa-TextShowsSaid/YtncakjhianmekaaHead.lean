/- The head of the translation: which words it opens with, and the facts of each row that hang on them. -/
import Derived.Test.YtncakjhianmekaaRowAid
namespace Go.Proofs.Ytncakjhianmekaa
set_option linter.unusedVariables false
set_option linter.unusedSimpArgs false
def headH : List Nat := [104, 97, 114, 110, 101, 115, 115]
def headS : List Nat := [101, 48, 97, 101, 99, 49, 53, 53, 102, 99, 102, 100, 57, 55, 97, 99, 101, 98, 101, 97, 56, 54, 99, 98, 48, 98, 98, 56, 101, 52, 51, 56, 97, 53, 100, 100, 53, 50, 53, 102, 53, 51, 51, 55, 53, 99, 102, 51, 99, 50, 54, 98, 56, 54, 56, 51, 101, 102, 56, 55, 48, 100, 53, 99]
def headC : List Nat := [99, 117, 116]
def headR : List Nat := [97, 116, 32, 108, 105, 110, 99, 104, 112, 105, 110, 47, 108, 105, 110, 99, 104, 112, 105, 110, 108, 97, 119, 46, 84, 101, 120, 116, 83, 104, 111, 119, 115, 32, 108, 105, 110, 99, 104, 112, 105, 110, 47, 108, 105, 110, 99, 104, 112, 105, 110, 108, 97, 119, 46, 84, 101, 120, 116, 66, 97, 99, 107]
def headAll : List Nat := headH ++ 32 :: (headS ++ 32 :: (headC ++ 32 :: headR))
theorem head_is : Try.prog.initOrder = String.ofList (headAll.map Char.ofNat) := by kernel_rfl

theorem words_cons (a b : List Char) (h : a.all (fun c => c != Char.ofNat 32) = true) : wordsSigns (a ++ Char.ofNat 32 :: b) = a :: wordsSigns b := by
  induction a with
  | nil => rfl
  | cons c a ih =>
    simp only [List.all_cons, Bool.and_eq_true, bne_iff_ne] at h
    have hc : c ≠ Char.ofNat 32 := h.1
    have e : wordsSigns (c :: (a ++ Char.ofNat 32 :: b)) = (match wordsSigns (a ++ Char.ofNat 32 :: b) with | w :: ws => (c :: w) :: ws | [] => [[c]]) := by
      rw [wordsSigns] <;> first | rfl | (intro e; exact hc e) | exact hc
    rw [List.cons_append, e, ih h.2]
theorem head_words : wordsSigns Try.prog.initOrder.toList = headH.map Char.ofNat :: headS.map Char.ofNat :: headC.map Char.ofNat :: wordsSigns (headR.map Char.ofNat) := by
  rw [head_is, String.toList_ofList]
  unfold headAll
  simp only [List.map_append, List.map_cons]
  rw [words_cons _ _ (by decide +kernel), words_cons _ _ (by decide +kernel), words_cons _ _ (by decide +kernel)]
theorem head_behind : behindMainWord (wordsSigns Try.prog.initOrder.toList) = headC.map Char.ofNat :: wordsSigns (headR.map Char.ofNat) := by
  rw [head_words]
  simp only [behindMainWord]
  rw [if_pos (by decide +kernel)]
theorem head_cut : behindMainWord (wordsSigns Try.prog.initOrder.toList) = "cut".toList :: wordsSigns (headR.map Char.ofNat) := by
  rw [head_behind]; congr 1
theorem strip_cut (R : List (List Char)) : stripLifts liftWords ("cut".toList :: R) = ([], "cut".toList :: R) := by rfl
theorem later : Try.prog.laysLater = false := by kernel_rfl
theorem reflects : Try.prog.bearsReflect = false := by kernel_rfl
theorem doors : Try.prog.doorFits [] = true := by kernel_rfl
theorem mayEnter_of {P : Program} {R : List (List Char)} (h : behindMainWord (wordsSigns P.initOrder.toList) = "cut".toList :: R) (h1 : P.laysLater = false) (h2 : P.bearsReflect = false) (h3 : P.doorFits [] = true) : P.mayEnter = true := by
  unfold Program.mayEnter
  rw [h]
  simp only [strip_cut, h1, h2, h3]
  simp
theorem liftsFinal_of {P : Program} {R : List (List Char)} (h : behindMainWord (wordsSigns P.initOrder.toList) = "cut".toList :: R) : P.liftsFinal = false := by
  unfold Program.liftsFinal Program.headLifts
  rw [h]
  simp only [strip_cut]
  simp
theorem make_of {P : Program} {R : List (List Char)} (h : behindMainWord (wordsSigns P.initOrder.toList) = "cut".toList :: R) : P.make = some .cut := by
  unfold Program.make
  rw [h]
  simp
theorem may_enter : Try.prog.mayEnter = true := mayEnter_of head_cut later reflects doors
theorem lifts_final : Try.prog.liftsFinal = false := liftsFinal_of head_cut
theorem make_cut : Try.prog.make = some .cut := make_of head_cut
end Go.Proofs.Ytncakjhianmekaa
