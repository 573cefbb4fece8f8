/- The reference's ProgFrom. -/
import Derived.Test.YtncakjhianmekaaTextFrom2
import Derived.Test.YtncakjhianmekaaTextSame
namespace Go.Proofs.Ytncakjhianmekaa
set_option linter.unusedVariables false
set_option linter.unusedSimpArgs false
open Go.RowKit

theorem rcheck_any2 (A : Option Addr) (n c : Nat) (p : List PNode) (w : World) (h : SlN w A n p) (hn : n ≤ maxLen) :
    Calls Try.prog 6 #[.slice A n c] w fun e w' => e = .returned (I (checkP p)) ∧ w = w' := by
  rw [← rcheckP_eq]; exact rcheck_any A n c p w h hn
theorem prog_yes (s : List UInt8) (w : World) (t : Tr) (hs : s.length ≤ 4096) (hp : progOfText s = some t) :
    Calls Try.prog 10 #[S s] w fun e w' => ∃ A c, e = .returned (Pr (.slice A t.size c) (.bool true)) ∧ SlN w' A t.size t.flat ∧ t.size ≤ c ∧ c ≤ maxLen ∧ Ext w w' := by
  obtain ⟨he, ok, hg, hsz⟩ := progOf_some hp
  have hr : rreadT 15 14 s = some (t, []) := by rw [he]; exact rprogOf_text ok hg hsz
  have hck : checkP t.flat = 0 := tree_check ok hsz hg
  have hK : t.flat.any badKind = false := (checkP_ok hck).2.1
  have HR := Lib.hid hr; have HE := Lib.hid he; have HCK := Lib.hid hck
  have HN := Lib.hid (fun (A : Option Addr) (c : Nat) (Q : World) (hQ : SlN Q A t.size t.flat) => rnode_any A t.size c t.flat (by omega) hK t 0 Q hQ (TreeAt.root t) ok hg)
  clear hr he hck hK ok hg hp
  go_enter Try.func10, Try.ntmps10
  go_wp2_with fail
  refine (FromOK.yes (from_ok 15) (m := 14) rfl (by omega) (by omega) (by omega) (by omega) HR.out).mono ?_; rintro e w1 ⟨A, c, rfl, sl, k1, k2, k3, k4, x1⟩
  have SL := Lib.hid sl; have X1 := Lib.hid x1; clear sl x1
  go_wp2_with fail
  refine (rcheck_any2 A t.size c t.flat w1 SL.out (by unfold maxLen; omega)).mono ?_; rintro e w2 ⟨rfl, rfl⟩; rw [HCK.out]
  go_wp2_with fail
  refine (HN.out A c w1 SL.out).mono ?_; rintro e w2 ⟨rfl, x2⟩
  rw [← HE.out]
  go_wp2
  go_ret2
  exact ⟨A, c, rfl, SL.out.keep x2.keeps, k1, k2, X1.out.trans x2⟩
theorem prog_no (s : List UInt8) (w : World) (hs : s.length ≤ 4096) (hp : progOfText s = none) :
    Calls Try.prog 10 #[S s] w fun e w' => e = .returned (Pr (.slice none 0 0) (.bool false)) ∧ Ext w w' := by
  cases hr : rreadT 15 14 s with
  | none =>
    have HR := Lib.hid hr; clear hr hp
    go_enter Try.func10, Try.ntmps10
    go_wp2_with fail
    refine (FromOK.no (from_ok 15) (m := 14) rfl (by omega) (by omega) (by omega) (by omega) HR.out).mono ?_; rintro e w1 ⟨u, v, rfl, x1⟩
    go_wp2
    go_ret2
    exact ⟨rfl, x1⟩
  | some q =>
    obtain ⟨t, r⟩ := q
    by_cases h0 : r = []
    · subst h0
      by_cases hck : checkP t.flat = 0
      · obtain ⟨t', ok, hfl, hsz, hg⟩ := check_tree hck
        have hne : textT t' ≠ s := by
          rintro rfl
          rw [progOf_text ok hg hsz] at hp; cases hp
        have hl : t'.size = t.size := by rw [← flat_size, ← flat_size, hfl]
        have hK : t'.flat.any badKind = false := by rw [← hfl]; exact (checkP_ok hck).2.1
        have HR := Lib.hid hr; have HCK := Lib.hid hck; have HNE := Lib.hid hne; have HL := Lib.hid hl; have HF := Lib.hid hfl
        have HN := Lib.hid (fun (A : Option Addr) (c : Nat) (Q : World) (hQ : SlN Q A t'.size t'.flat) => rnode_any A t'.size c t'.flat (by omega) hK t' 0 Q hQ (TreeAt.root t') ok hg)
        clear hr hck hp hK hne hl hfl
        have hsz' : t.size ≤ 14 := by have := HL.out; omega
        go_enter Try.func10, Try.ntmps10
        go_wp2_with fail
        refine (FromOK.yes (from_ok 15) (m := 14) rfl (by omega) (by omega) (by omega) (by omega) HR.out).mono ?_; rintro e w1 ⟨A, c, rfl, sl, k1, k2, k3, k4, x1⟩
        have SL := Lib.hid sl; have X1 := Lib.hid x1; clear sl x1
        go_wp2_with fail
        refine (rcheck_any2 A t.size c t.flat w1 SL.out (by unfold maxLen; omega)).mono ?_; rintro e w2 ⟨rfl, rfl⟩; rw [HCK.out]
        go_wp2_with fail
        rw [← HL.out]
        refine (HN.out A c w1 (by have := SL.out; rw [HF.out] at this; rw [HL.out]; exact this)).mono ?_; rintro e w2 ⟨rfl, x2⟩
        have hne : (textT t' == s) = false := by have := HNE.out; simpa using this
        go_wp2
        go_ret2
        exact ⟨rfl, X1.out.trans x2⟩
      · have HR := Lib.hid hr
        generalize hq : checkP t.flat = q at hck
        have g : (q != 0) = true := by simpa using hck
        have HQ := Lib.hid hq
        clear hr hp hq
        go_enter Try.func10, Try.ntmps10
        go_wp2_with fail
        refine (FromOK.yes (from_ok 15) (m := 14) rfl (by omega) (by omega) (by omega) (by omega) HR.out).mono ?_; rintro e w1 ⟨A, c, rfl, sl, k1, k2, k3, k4, x1⟩
        have SL := Lib.hid sl; have X1 := Lib.hid x1; clear sl x1
        go_wp2_with fail
        refine (rcheck_any2 A t.size c t.flat w1 SL.out (by unfold maxLen; omega)).mono ?_; rintro e w2 ⟨rfl, rfl⟩; rw [HQ.out]
        go_wp2
        go_ret2
        exact ⟨rfl, X1.out⟩
    · have HR := Lib.hid hr; clear hr hp
      go_enter Try.func10, Try.ntmps10
      go_wp2_with fail
      refine (FromOK.yes (from_ok 15) (m := 14) rfl (by omega) (by omega) (by omega) (by omega) HR.out).mono ?_; rintro e w1 ⟨A, c, rfl, sl, k1, k2, k3, k4, x1⟩
      have X1 := Lib.hid x1; clear sl x1
      go_wp2
      go_ret2
      exact ⟨rfl, X1.out⟩
end Go.Proofs.Ytncakjhianmekaa
