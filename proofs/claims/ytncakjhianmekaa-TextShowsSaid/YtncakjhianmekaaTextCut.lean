/- Words that a text begins with, cut off, by the library and by the reference. -/
import Derived.Test.YtncakjhianmekaaTextLib
import Derived.Laws.RangeString
import Derived.Laws.RangeAny
namespace Go.Proofs.Ytncakjhianmekaa
set_option linter.unusedVariables false
set_option linter.unusedSimpArgs false
open Go.RowKit

theorem cutP_take : ∀ (w s : List UInt8), cutP w s = if s.take w.length = w then some (s.drop w.length) else none
  | [], s => by simp [cutP]
  | c :: w, [] => by simp [cutP]
  | c :: w, d :: s => by
    simp only [cutP, List.length_cons, List.take_succ_cons, List.drop_succ_cons, List.cons.injEq]
    by_cases e : c = d
    · subst e; rw [if_pos rfl, cutP_take w s]; simp
    · rw [if_neg e, if_neg (fun h => e h.1.symm)]
theorem ba_extract (s : List UInt8) (a b : Nat) : (⟨s.toArray⟩ : ByteArray).extract a b = ⟨((s.take b).drop a).toArray⟩ := by
  apply ByteArray.ext
  simp [ByteArray.data_extract, List.drop_take]
theorem ba_inj {a b : List UInt8} : ((⟨a.toArray⟩ : ByteArray) = ⟨b.toArray⟩) = (a = b) := by
  rw [eq_iff_iff]; constructor
  · intro h; injection h with h; exact List.toArray_inj h
  · rintro rfl; rfl
/-- What is left of a text behind a word, or the text as it is; and whether it begins so. -/
def restP (w s : List UInt8) : List UInt8 := (cutP w s).getD s
def isP (w s : List UInt8) : Bool := (cutP w s).isSome

theorem ba_toList (l : List UInt8) : (⟨l.toArray⟩ : ByteArray).toList = l := by
  have h : ∀ (b : ByteArray) (i : Nat) (r : List UInt8), ByteArray.toList.loop b i r = r.reverse ++ b.data.toList.drop i := by
    intro b i r
    induction h : b.size - i generalizing i r with
    | zero =>
      rw [ByteArray.toList.loop]
      have h1 : ¬ i < b.size := by omega
      rw [if_neg h1, List.drop_eq_nil_of_le (by have : b.size = b.data.size := rfl; simp; omega)]; simp
    | succ n ih =>
      have h1 : i < b.size := by omega
      rw [ByteArray.toList.loop, if_pos h1, ih (i + 1) _ (by omega)]
      have h2 : i < b.data.toList.length := by have : b.size = b.data.size := rfl; simp; omega
      rw [List.drop_eq_getElem_cons h2]
      have : b.get! i = b.data.toList[i] := by
        show b.data[i]! = _
        rw [getElem!_pos b.data i (by simpa using h2)]; simp
      rw [this]; simp
  unfold ByteArray.toList
  rw [h]; simp
theorem isP_take (w s : List UInt8) : isP w s = decide (s.take w.length = w) := by
  unfold isP; rw [cutP_take]; split <;> simp_all
theorem isP_short {w s : List UInt8} (h : ¬ w.length ≤ s.length) : isP w s = false := by
  rw [isP_take]
  refine decide_eq_false fun e => h ?_
  have := congrArg List.length e; simp at this; omega
theorem restP_yes {w s : List UInt8} (h : isP w s = true) : restP w s = s.drop w.length := by
  unfold isP at h; unfold restP; rw [cutP_take] at *; split at h <;> simp_all
theorem restP_no {w s : List UInt8} (h : isP w s = false) : restP w s = s := by
  unfold isP at h; unfold restP; cases hc : cutP w s with
  | none => rfl
  | some r => rw [hc] at h; cases h
theorem isP_eq (s w : List UInt8) : (((⟨s.toArray⟩ : ByteArray).extract 0 w.length).toList == w) = isP w s := by
  rw [ba_extract, ba_toList, isP_take, List.drop_zero, Bool.eq_iff_iff]; simp
theorem ba_tail {w s : List UInt8} (h : isP w s = true) (n : Nat) (hn : n = s.length) : (⟨s.toArray⟩ : ByteArray).extract w.length n = ⟨(restP w s).toArray⟩ := by
  subst hn
  rw [ba_extract, restP_yes h, List.take_length]

theorem hasPrefix_any (s w : List UInt8) (hs : s.length ≤ 1000000) (hw : w.length ≤ 1000000) (W : World) :
    Calls Try.prog 36 #[S s, S w] W fun e w' => e = .returned (.bool (isP w s)) ∧ W = w' := by
  go_enter Try.func36, Try.ntmps36
  go_wp2
  all_goals go_ret
  · exact ⟨ret_bool (isP_eq s w), rfl⟩
  · exact ⟨ret_bool (isP_short (by assumption)).symm, rfl⟩
theorem sCutPrefix_any (s w : List UInt8) (hs : s.length ≤ 1000000) (hw : w.length ≤ 1000000) (W : World) :
    Calls Try.prog 35 #[S s, S w] W fun e w' => e = .returned (Pr (S (restP w s)) (.bool (isP w s))) ∧ W = w' := by
  cases h : isP w s
  · have HI := Lib.hid h; have HR := Lib.hid (restP_no h); clear h
    go_enter Try.func35, Try.ntmps35
    go_wp2_with fail
    refine (hasPrefix_any s w hs hw _).mono ?_; rintro e w1 ⟨rfl, rfl⟩; rw [HI.out]
    go_wp2
    go_ret2
    exact ⟨ret_pair (congrArg S HR.out.symm) rfl, rfl⟩
  · have HI := Lib.hid h; have HR := Lib.hid (ba_tail h s.length rfl)
    have hle : w.length ≤ s.length := by
      rcases Nat.lt_or_ge s.length w.length with q | q
      · rw [isP_short (by omega)] at h; cases h
      · exact q
    clear h
    go_enter Try.func35, Try.ntmps35
    go_wp2_with fail
    refine (hasPrefix_any s w hs hw _).mono ?_; rintro e w1 ⟨rfl, rfl⟩; rw [HI.out]
    go_wp2
    go_ret2
    exact ⟨ret_pair (congrArg Value.string HR.out) rfl, rfl⟩
theorem cutPrefix_any (s w : List UInt8) (hs : s.length ≤ 1000000) (hw : w.length ≤ 1000000) (W : World) :
    Calls Try.prog 34 #[S s, S w] W fun e w' => e = .returned (Pr (S (restP w s)) (.bool (isP w s))) ∧ W = w' := by
  go_enter Try.func34, Try.ntmps34
  go_wp2_with fail
  refine (sCutPrefix_any s w hs hw _).mono ?_; rintro e w1 ⟨rfl, rfl⟩
  go_wp2
  go_ret2
  exact ⟨rfl, rfl⟩
theorem after_any (s w : List UInt8) (hs : s.length ≤ 1000000) (hw : w.length ≤ 1000000) (W : World) :
    Calls Try.prog 32 #[S s, S w] W fun e w' => e = .returned (Pr (S (restP w s)) (.bool (isP w s))) ∧ W = w' := by
  have HE := Lib.hid (isP_eq s w)
  go_enter Try.func32, Try.ntmps32
  go_wp2
  · go_ret2
    have h : isP w s = false := by
      rename_i _ h
      rw [HE.out] at h
      rcases h with h | h
      · exact isP_short (by omega)
      · simpa using h
    exact ⟨ret_pair (congrArg S (restP_no h).symm) (congrArg Value.bool h.symm), rfl⟩
  · go_ret2
    have h : isP w s = true := by
      rename_i _ h
      rw [HE.out] at h
      simpa using h.2
    exact ⟨ret_pair (congrArg Value.string (ba_tail h s.length rfl)) (congrArg Value.bool h.symm), rfl⟩
  · go_ret2
    have h : isP w s = false := isP_short (by assumption)
    exact ⟨ret_pair (congrArg S (restP_no h).symm) (congrArg Value.bool h.symm), rfl⟩
end Go.Proofs.Ytncakjhianmekaa
