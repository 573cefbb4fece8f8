/- The bodies of TextShows and TextBack, from the contracts. -/
import Derived.Test.YtncakjhianmekaaTextBegun
import Derived.Test.YtncakjhianmekaaTextProg
namespace Go.Proofs.Ytncakjhianmekaa
set_option linter.unusedVariables false
set_option linter.unusedSimpArgs false
open Go.RowKit

theorem str_self (l : List UInt8) : ((⟨l.toArray⟩ : ByteArray).toList == l) = true := by rw [ba_toList]; simp
theorem prog_none_read {s : List UInt8} (h : progOfText s = none) : readT 15 14 s = none ∨ ∃ t r, readT 15 14 s = some (t, r) ∧ r ≠ [] := by
  unfold progOfText at h
  cases hr : readT 15 14 s with
  | none => exact .inl rfl
  | some q =>
    obtain ⟨t, r⟩ := q
    refine .inr ⟨t, r, rfl, ?_⟩
    rintro rfl
    rw [hr] at h; cases h
theorem prog_some_read {s : List UInt8} {t : Tr} (h : progOfText s = some t) : readT 15 14 s = some (t, []) := by
  obtain ⟨he, ok, hg, hsz⟩ := progOf_some h
  have := read_whole 15 t 14 [] ok hg hsz (by omega)
  rwa [List.append_nil, ← he] at this
theorem read_bad (s : List UInt8) (w : World) (hs : s.length ≤ 4096) (h : progOfText s = none) :
    Calls Try.prog 8 #[S s] w fun e w' => e = .returned (Pr (.slice none 0 0) (I 1)) ∧ Ext w w' := by
  rcases prog_none_read h with h | ⟨t, r, h, h0⟩
  · exact read_none s w hs h
  · exact read_more s w hs t r h h0
theorem read_good (s : List UInt8) (w : World) (hs : s.length ≤ 4096) {t : Tr} (h : progOfText s = some t) :
    Calls Try.prog 8 #[S s] w fun e w' => ∃ A c, e = .returned (Pr (.slice A t.size c) (I 0)) ∧ SlN w' A t.size t.flat ∧ t.size ≤ c ∧ c ≤ maxLen ∧ Ext w w' := read_ok s w hs t (prog_some_read h)
set_option maxHeartbeats 4000000 in
theorem shows_good_many (A : Option Addr) (n c : Nat) (t : Tr) (ok : t.ok) (hsz : t.size ≤ 14) (hg : ∀ x ∈ t.flat, goodN x) (s : List UInt8) (w : World) (h : SlN w A n t.flat) (hn : n ≤ maxLen) (hs : 4096 < s.length) (hm : s.length ≤ maxLen) :
    Calls Try.prog 3 #[.slice A n c, S s] w fun e w' => e = .returned (.bool true) ∧ Ext w w' := by
  have hn14 : n ≤ 14 := by have := h.1; rw [flat_size] at this; omega
  have hck : checkP t.flat = 0 := tree_check ok hsz hg
  have HCK := Lib.hid hck
  have hK : t.flat.any badKind = false := (checkP_ok hck).2.1
  have HN := Lib.hid (fun Q (hQ : SlN Q A n t.flat) => rnode_any A n c t.flat (by omega) hK t 0 Q hQ (TreeAt.root t) ok hg)
  have HS := Lib.hid (fun Q (hQ : SlN Q A n t.flat) => show_ok A n c t Q hQ ok hsz hg)
  have htl : (textT t).length ≤ 2000000 := by have := text_len t; omega
  have H := Lib.hid h
  have HR := Lib.hid (fun Q => read_many s Q hs hm)
  unfold maxLen at hm
  clear hck hK ok hsz hg h
  go_enter Try.func3, Try.ntmps3
  go_wp2_with fail
  refine (HS.out w H.out).mono ?_; rintro e w1 ⟨rfl, x1⟩
  have X1 := Lib.hid x1; clear x1
  go_wp2_with fail
  refine (rcheck_any2 A n c t.flat w1 (H.out.keep X1.out.keeps) hn).mono ?_; rintro e w2 ⟨rfl, rfl⟩; rw [HCK.out]
  go_wp2_with fail
  refine (HN.out w1 (H.out.keep X1.out.keeps)).mono ?_; rintro e w2 ⟨rfl, x2⟩
  have X2 := Lib.hid (X1.out.trans x2); clear x2
  go_wp2_with fail
  refine (HR.out w2).mono ?_; rintro e w3 ⟨rfl, x3⟩
  have X3 := Lib.hid (X2.out.trans x3); clear x3
  go_wp2_with fail
  refine (textBegun_any w3).mono ?_; rintro e w5 ⟨rfl, x5⟩
  have X5 := Lib.hid (X3.out.trans x5); clear x5
  go_wp2
  go_ret
  exact ⟨by simp, X5.out⟩
set_option maxHeartbeats 4000000 in
theorem shows_good_yes (A : Option Addr) (n c : Nat) (t : Tr) (ok : t.ok) (hsz : t.size ≤ 14) (hg : ∀ x ∈ t.flat, goodN x) (s : List UInt8) (w : World) (h : SlN w A n t.flat) (hn : n ≤ maxLen) (hs : s.length ≤ 4096) {u : Tr} (hu : progOfText s = some u) :
    Calls Try.prog 3 #[.slice A n c, S s] w fun e w' => e = .returned (.bool true) ∧ Ext w w' := by
  have hn14 : n ≤ 14 := by have := h.1; rw [flat_size] at this; omega
  have hck : checkP t.flat = 0 := tree_check ok hsz hg
  have HCK := Lib.hid hck
  have hK : t.flat.any badKind = false := (checkP_ok hck).2.1
  have HN := Lib.hid (fun Q (hQ : SlN Q A n t.flat) => rnode_any A n c t.flat (by omega) hK t 0 Q hQ (TreeAt.root t) ok hg)
  have HS := Lib.hid (fun Q (hQ : SlN Q A n t.flat) => show_ok A n c t Q hQ ok hsz hg)
  have htl : (textT t).length ≤ 2000000 := by have := text_len t; omega
  have H := Lib.hid h
  have HR := Lib.hid (fun Q => read_good s Q hs hu)
  have HP := Lib.hid (fun Q => prog_yes s Q u hs hu)
  have husz := (progOf_some hu).2.2.2
  have HUS := Lib.hid husz
  clear hck hK ok hsz hg h hu husz
  go_enter Try.func3, Try.ntmps3
  go_wp2_with fail
  refine (HS.out w H.out).mono ?_; rintro e w1 ⟨rfl, x1⟩
  have X1 := Lib.hid x1; clear x1
  go_wp2_with fail
  refine (rcheck_any2 A n c t.flat w1 (H.out.keep X1.out.keeps) hn).mono ?_; rintro e w2 ⟨rfl, rfl⟩; rw [HCK.out]
  go_wp2_with fail
  refine (HN.out w1 (H.out.keep X1.out.keeps)).mono ?_; rintro e w2 ⟨rfl, x2⟩
  have X2 := Lib.hid (X1.out.trans x2); clear x2
  go_wp2_with fail
  refine (HR.out w2).mono ?_; rintro e w3 ⟨B, d, rfl, sl, k1, k2, x3⟩
  have X3 := Lib.hid (X2.out.trans x3); have SL := Lib.hid sl; have HUS' := HUS.out; clear x3 sl k1 k2
  go_wp2_with fail
  refine (HP.out w3).mono ?_; rintro e w4 ⟨B', d', rfl, sl', k1, k2, x4⟩
  have X4 := Lib.hid (X3.out.trans x4); have SL3 := Lib.hid (SL.out.keep x4.keeps); have SL4 := Lib.hid sl'; clear x4 sl' k1 k2
  go_wp2_with fail
  refine (textBegun_any w4).mono ?_; rintro e w5 ⟨rfl, x5⟩
  have X5 := Lib.hid (X4.out.trans x5); have SL5 := Lib.hid (SL3.out.keep x5.keeps); have SL6 := Lib.hid (SL4.out.keep x5.keeps); clear x5
  go_wp2_with fail
  refine (sameProgs_any B B' u.size u.size d d' u.flat u.flat w5 SL5.out SL6.out (by have := HUS.out; unfold maxLen; omega) (by have := HUS.out; unfold maxLen; omega)).mono ?_; rintro e w6 ⟨rfl, m, rfl⟩
  rw [decide_eq_true (rfl : u.flat = u.flat)]
  go_wp2
  go_ret
  exact ⟨by simp, X5.out.drewN _⟩
set_option maxHeartbeats 4000000 in
theorem shows_good_no (A : Option Addr) (n c : Nat) (t : Tr) (ok : t.ok) (hsz : t.size ≤ 14) (hg : ∀ x ∈ t.flat, goodN x) (s : List UInt8) (w : World) (h : SlN w A n t.flat) (hn : n ≤ maxLen) (hs : s.length ≤ 4096) (hu : progOfText s = none) :
    Calls Try.prog 3 #[.slice A n c, S s] w fun e w' => e = .returned (.bool true) ∧ Ext w w' := by
  have hn14 : n ≤ 14 := by have := h.1; rw [flat_size] at this; omega
  have hck : checkP t.flat = 0 := tree_check ok hsz hg
  have HCK := Lib.hid hck
  have hK : t.flat.any badKind = false := (checkP_ok hck).2.1
  have HN := Lib.hid (fun Q (hQ : SlN Q A n t.flat) => rnode_any A n c t.flat (by omega) hK t 0 Q hQ (TreeAt.root t) ok hg)
  have HS := Lib.hid (fun Q (hQ : SlN Q A n t.flat) => show_ok A n c t Q hQ ok hsz hg)
  have htl : (textT t).length ≤ 2000000 := by have := text_len t; omega
  have H := Lib.hid h
  have HR := Lib.hid (fun Q => read_bad s Q hs hu)
  have HP := Lib.hid (fun Q => prog_no s Q hs hu)
  clear hck hK ok hsz hg h hu
  go_enter Try.func3, Try.ntmps3
  go_wp2_with fail
  refine (HS.out w H.out).mono ?_; rintro e w1 ⟨rfl, x1⟩
  have X1 := Lib.hid x1; clear x1
  go_wp2_with fail
  refine (rcheck_any2 A n c t.flat w1 (H.out.keep X1.out.keeps) hn).mono ?_; rintro e w2 ⟨rfl, rfl⟩; rw [HCK.out]
  go_wp2_with fail
  refine (HN.out w1 (H.out.keep X1.out.keeps)).mono ?_; rintro e w2 ⟨rfl, x2⟩
  have X2 := Lib.hid (X1.out.trans x2); clear x2
  go_wp2_with fail
  refine (HR.out w2).mono ?_; rintro e w3 ⟨rfl, x3⟩
  have X3 := Lib.hid (X2.out.trans x3); clear x3
  go_wp2_with fail
  refine (HP.out w3).mono ?_; rintro e w4 ⟨rfl, x4⟩
  have X4 := Lib.hid (X3.out.trans x4); clear x4
  go_wp2_with fail
  refine (textBegun_any w4).mono ?_; rintro e w5 ⟨rfl, x5⟩
  have X5 := Lib.hid (X4.out.trans x5); clear x5
  go_wp2_with fail
  refine (sameProgs_any none none 0 0 0 0 [] [] w5 (Sl2.nil _ _ _ _) (Sl2.nil _ _ _ _) (by unfold maxLen; omega) (by unfold maxLen; omega)).mono ?_; rintro e w6 ⟨rfl, m, rfl⟩
  rw [decide_eq_true (rfl : ([] : List PNode) = [])]
  go_wp2
  go_ret
  exact ⟨by simp, X5.out.drewN _⟩
set_option maxHeartbeats 4000000 in
theorem shows_bad_many (A : Option Addr) (n c : Nat) (p : List PNode) (hc : checkP p ≠ 0) (s : List UInt8) (w : World) (h : SlN w A n p) (hn : n ≤ maxLen) (hs : 4096 < s.length) (hm : s.length ≤ maxLen) :
    Calls Try.prog 3 #[.slice A n c, S s] w fun e w' => e = .returned (.bool true) ∧ Ext w w' := by
  have HS := Lib.hid (fun Q (hQ : SlN Q A n p) => show_bad A n c p Q hQ hn hc)
  generalize hq : checkP p = q at hc HS
  have HCK := Lib.hid hq
  have g : (q == 0) = false := by simpa using hc
  have H := Lib.hid h
  have HR := Lib.hid (fun Q => read_many s Q hs hm)
  unfold maxLen at hm
  clear hq h
  go_enter Try.func3, Try.ntmps3
  go_wp2_with fail
  refine (HS.out w H.out).mono ?_; rintro e w1 ⟨rfl, x1⟩
  have X1 := Lib.hid x1; clear x1
  go_wp2_with fail
  refine (rcheck_any2 A n c p w1 (H.out.keep X1.out.keeps) hn).mono ?_; rintro e w2 ⟨rfl, rfl⟩; rw [HCK.out]
  go_wp2_with fail
  refine (HR.out w1).mono ?_; rintro e w3 ⟨rfl, x3⟩
  have X3 := Lib.hid (X1.out.trans x3); clear x3
  go_wp2_with fail
  refine (textBegun_any w3).mono ?_; rintro e w5 ⟨rfl, x5⟩
  have X5 := Lib.hid (X3.out.trans x5); clear x5
  go_wp2
  go_ret
  exact ⟨by simp, X5.out⟩
set_option maxHeartbeats 4000000 in
theorem shows_bad_yes (A : Option Addr) (n c : Nat) (p : List PNode) (hc : checkP p ≠ 0) (s : List UInt8) (w : World) (h : SlN w A n p) (hn : n ≤ maxLen) (hs : s.length ≤ 4096) {u : Tr} (hu : progOfText s = some u) :
    Calls Try.prog 3 #[.slice A n c, S s] w fun e w' => e = .returned (.bool true) ∧ Ext w w' := by
  have HS := Lib.hid (fun Q (hQ : SlN Q A n p) => show_bad A n c p Q hQ hn hc)
  generalize hq : checkP p = q at hc HS
  have HCK := Lib.hid hq
  have g : (q == 0) = false := by simpa using hc
  have H := Lib.hid h
  have HR := Lib.hid (fun Q => read_good s Q hs hu)
  have HP := Lib.hid (fun Q => prog_yes s Q u hs hu)
  have husz := (progOf_some hu).2.2.2
  have HUS := Lib.hid husz
  clear hq h hu husz
  go_enter Try.func3, Try.ntmps3
  go_wp2_with fail
  refine (HS.out w H.out).mono ?_; rintro e w1 ⟨rfl, x1⟩
  have X1 := Lib.hid x1; clear x1
  go_wp2_with fail
  refine (rcheck_any2 A n c p w1 (H.out.keep X1.out.keeps) hn).mono ?_; rintro e w2 ⟨rfl, rfl⟩; rw [HCK.out]
  go_wp2_with fail
  refine (HR.out w1).mono ?_; rintro e w3 ⟨B, d, rfl, sl, k1, k2, x3⟩
  have X3 := Lib.hid (X1.out.trans x3); have SL := Lib.hid sl; have HUS' := HUS.out; clear x3 sl k1 k2
  go_wp2_with fail
  refine (HP.out w3).mono ?_; rintro e w4 ⟨B', d', rfl, sl', k1, k2, x4⟩
  have X4 := Lib.hid (X3.out.trans x4); have SL3 := Lib.hid (SL.out.keep x4.keeps); have SL4 := Lib.hid sl'; clear x4 sl' k1 k2
  go_wp2_with fail
  refine (textBegun_any w4).mono ?_; rintro e w5 ⟨rfl, x5⟩
  have X5 := Lib.hid (X4.out.trans x5); have SL5 := Lib.hid (SL3.out.keep x5.keeps); have SL6 := Lib.hid (SL4.out.keep x5.keeps); clear x5
  go_wp2_with fail
  refine (sameProgs_any B B' u.size u.size d d' u.flat u.flat w5 SL5.out SL6.out (by have := HUS.out; unfold maxLen; omega) (by have := HUS.out; unfold maxLen; omega)).mono ?_; rintro e w6 ⟨rfl, m, rfl⟩
  rw [decide_eq_true (rfl : u.flat = u.flat)]
  go_wp2
  go_ret
  exact ⟨by simp, X5.out.drewN _⟩
set_option maxHeartbeats 4000000 in
theorem shows_bad_no (A : Option Addr) (n c : Nat) (p : List PNode) (hc : checkP p ≠ 0) (s : List UInt8) (w : World) (h : SlN w A n p) (hn : n ≤ maxLen) (hs : s.length ≤ 4096) (hu : progOfText s = none) :
    Calls Try.prog 3 #[.slice A n c, S s] w fun e w' => e = .returned (.bool true) ∧ Ext w w' := by
  have HS := Lib.hid (fun Q (hQ : SlN Q A n p) => show_bad A n c p Q hQ hn hc)
  generalize hq : checkP p = q at hc HS
  have HCK := Lib.hid hq
  have g : (q == 0) = false := by simpa using hc
  have H := Lib.hid h
  have HR := Lib.hid (fun Q => read_bad s Q hs hu)
  have HP := Lib.hid (fun Q => prog_no s Q hs hu)
  clear hq h hu
  go_enter Try.func3, Try.ntmps3
  go_wp2_with fail
  refine (HS.out w H.out).mono ?_; rintro e w1 ⟨rfl, x1⟩
  have X1 := Lib.hid x1; clear x1
  go_wp2_with fail
  refine (rcheck_any2 A n c p w1 (H.out.keep X1.out.keeps) hn).mono ?_; rintro e w2 ⟨rfl, rfl⟩; rw [HCK.out]
  go_wp2_with fail
  refine (HR.out w1).mono ?_; rintro e w3 ⟨rfl, x3⟩
  have X3 := Lib.hid (X1.out.trans x3); clear x3
  go_wp2_with fail
  refine (HP.out w3).mono ?_; rintro e w4 ⟨rfl, x4⟩
  have X4 := Lib.hid (X3.out.trans x4); clear x4
  go_wp2_with fail
  refine (textBegun_any w4).mono ?_; rintro e w5 ⟨rfl, x5⟩
  have X5 := Lib.hid (X4.out.trans x5); clear x5
  go_wp2_with fail
  refine (sameProgs_any none none 0 0 0 0 [] [] w5 (Sl2.nil _ _ _ _) (Sl2.nil _ _ _ _) (by unfold maxLen; omega) (by unfold maxLen; omega)).mono ?_; rintro e w6 ⟨rfl, m, rfl⟩
  rw [decide_eq_true (rfl : ([] : List PNode) = [])]
  go_wp2
  go_ret
  exact ⟨by simp, X5.out.drewN _⟩
theorem textShows_walk (A : Option Addr) (n c : Nat) (p : List PNode) (s : List UInt8) (w : World) (h : SlN w A n p) (hn : n ≤ maxLen) (hm : s.length ≤ maxLen) :
    Calls Try.prog 3 #[.slice A n c, S s] w fun e w' => e = .returned (.bool true) ∧ Ext w w' := by
  by_cases hc : checkP p = 0
  · obtain ⟨t, ok, rfl, hsz, hg⟩ := check_tree hc
    rcases Nat.lt_or_ge 4096 s.length with hs | hs
    · exact shows_good_many A n c t ok hsz hg s w h hn hs hm
    · cases hu : progOfText s with
      | some u => exact shows_good_yes A n c t ok hsz hg s w h hn hs hu
      | none => exact shows_good_no A n c t ok hsz hg s w h hn hs hu
  · rcases Nat.lt_or_ge 4096 s.length with hs | hs
    · exact shows_bad_many A n c p hc s w h hn hs hm
    · cases hu : progOfText s with
      | some u => exact shows_bad_yes A n c p hc s w h hn hs hu
      | none => exact shows_bad_no A n c p hc s w h hn hs hu
set_option maxHeartbeats 4000000 in
theorem back_good_many (A : Option Addr) (n c : Nat) (t : Tr) (ok : t.ok) (hsz : t.size ≤ 14) (hg : ∀ x ∈ t.flat, goodN x) (s : List UInt8) (w : World) (h : SlN w A n t.flat) (hn : n ≤ maxLen) (hs : 4096 < s.length) (hm : s.length ≤ maxLen) :
    Calls Try.prog 4 #[.slice A n c, S s] w fun e w' => e = .returned (.bool true) ∧ Ext w w' := by
  have hn14 : n ≤ 14 := by have := h.1; rw [flat_size] at this; omega
  have hnt : n = t.size := by have := h.1; rw [flat_size] at this; omega
  have HS := Lib.hid (fun Q (hQ : SlN Q A n t.flat) => show_ok A n c t Q hQ ok hsz hg)
  have htl : (textT t).length ≤ 4096 := by have := text_len t; omega
  have HT := Lib.hid (fun Q => read_good (textT t) Q htl (progOf_text ok hg hsz))
  have HNT := Lib.hid hnt
  have H := Lib.hid h
  have HR := Lib.hid (fun Q => read_many s Q hs hm)
  unfold maxLen at hm
  clear ok hsz hg h hnt
  go_enter Try.func4, Try.ntmps4
  go_wp2_with fail
  refine (HS.out w H.out).mono ?_; rintro e w1 ⟨rfl, x1⟩
  have X1 := Lib.hid x1; clear x1
  go_wp2_with fail
  refine (HT.out w1).mono ?_; rintro e w2 ⟨B0, d0, rfl, sl, k1, k2, x2⟩
  have X2 := Lib.hid (X1.out.trans x2); have SL0 := Lib.hid sl; clear x2 sl k1 k2
  go_wp2_with fail
  refine (sameProgs_any B0 A t.size n d0 c t.flat t.flat w2 SL0.out (H.out.keep X2.out.keeps) (by have := HNT.out; unfold maxLen; omega) (by unfold maxLen; omega)).mono ?_; rintro e w3 ⟨rfl, m, rfl⟩
  rw [decide_eq_true (rfl : t.flat = t.flat)]
  have X3 := Lib.hid (X2.out.drewN m); clear SL0
  generalize w2.drewN m = w3 at *
  go_wp2_with fail
  refine (HR.out w3).mono ?_; rintro e w4 ⟨rfl, x4⟩
  have X4 := Lib.hid (X3.out.trans x4); clear x4
  go_wp2_with fail
  refine (textBegun_any w4).mono ?_; rintro e w5 ⟨rfl, x5⟩
  go_wp2
  go_ret
  exact ⟨rfl, X4.out.trans x5⟩
set_option maxHeartbeats 4000000 in
theorem back_good_yes (A : Option Addr) (n c : Nat) (t : Tr) (ok : t.ok) (hsz : t.size ≤ 14) (hg : ∀ x ∈ t.flat, goodN x) (s : List UInt8) (w : World) (h : SlN w A n t.flat) (hn : n ≤ maxLen) (hs : s.length ≤ 4096) {u : Tr} (hu : progOfText s = some u) :
    Calls Try.prog 4 #[.slice A n c, S s] w fun e w' => e = .returned (.bool true) ∧ Ext w w' := by
  have hn14 : n ≤ 14 := by have := h.1; rw [flat_size] at this; omega
  have hnt : n = t.size := by have := h.1; rw [flat_size] at this; omega
  have HS := Lib.hid (fun Q (hQ : SlN Q A n t.flat) => show_ok A n c t Q hQ ok hsz hg)
  have htl : (textT t).length ≤ 4096 := by have := text_len t; omega
  have HT := Lib.hid (fun Q => read_good (textT t) Q htl (progOf_text ok hg hsz))
  have HNT := Lib.hid hnt
  have H := Lib.hid h
  have HR := Lib.hid (fun Q => read_good s Q hs hu)
  obtain ⟨hus, uok, ugd, usz⟩ := progOf_some hu
  have HU := Lib.hid (fun (B : Option Addr) (d : Nat) Q (hQ : SlN Q B u.size u.flat) => show_ok B u.size d u Q hQ uok usz ugd)
  have HUS := Lib.hid hus
  have husl : (textT u).length ≤ 4096 := by rw [← hus]; exact hs
  clear ok hsz hg h hnt hu hus uok ugd usz
  go_enter Try.func4, Try.ntmps4
  go_wp2_with fail
  refine (HS.out w H.out).mono ?_; rintro e w1 ⟨rfl, x1⟩
  have X1 := Lib.hid x1; clear x1
  go_wp2_with fail
  refine (HT.out w1).mono ?_; rintro e w2 ⟨B0, d0, rfl, sl, k1, k2, x2⟩
  have X2 := Lib.hid (X1.out.trans x2); have SL0 := Lib.hid sl; clear x2 sl k1 k2
  go_wp2_with fail
  refine (sameProgs_any B0 A t.size n d0 c t.flat t.flat w2 SL0.out (H.out.keep X2.out.keeps) (by have := HNT.out; unfold maxLen; omega) (by unfold maxLen; omega)).mono ?_; rintro e w3 ⟨rfl, m, rfl⟩
  rw [decide_eq_true (rfl : t.flat = t.flat)]
  have X3 := Lib.hid (X2.out.drewN m); clear SL0
  generalize w2.drewN m = w3 at *
  go_wp2_with fail
  refine (HR.out w3).mono ?_; rintro e w4 ⟨B, d, rfl, sl, k1, k2, x4⟩
  have X4 := Lib.hid (X3.out.trans x4); have SL := Lib.hid sl; clear x4 sl k1 k2
  go_wp2_with fail
  refine (HU.out B d w4 SL.out).mono ?_; rintro e w5 ⟨rfl, x5⟩
  rw [← HUS.out]
  have X5 := Lib.hid (X4.out.trans x5); clear x5
  go_wp2_with fail
  refine (textBegun_any w5).mono ?_; rintro e w6 ⟨rfl, x6⟩
  go_wp2
  go_ret
  exact ⟨by simp, X5.out.trans x6⟩
set_option maxHeartbeats 4000000 in
theorem back_good_no (A : Option Addr) (n c : Nat) (t : Tr) (ok : t.ok) (hsz : t.size ≤ 14) (hg : ∀ x ∈ t.flat, goodN x) (s : List UInt8) (w : World) (h : SlN w A n t.flat) (hn : n ≤ maxLen) (hs : s.length ≤ 4096) (hu : progOfText s = none) :
    Calls Try.prog 4 #[.slice A n c, S s] w fun e w' => e = .returned (.bool true) ∧ Ext w w' := by
  have hn14 : n ≤ 14 := by have := h.1; rw [flat_size] at this; omega
  have hnt : n = t.size := by have := h.1; rw [flat_size] at this; omega
  have HS := Lib.hid (fun Q (hQ : SlN Q A n t.flat) => show_ok A n c t Q hQ ok hsz hg)
  have htl : (textT t).length ≤ 4096 := by have := text_len t; omega
  have HT := Lib.hid (fun Q => read_good (textT t) Q htl (progOf_text ok hg hsz))
  have HNT := Lib.hid hnt
  have H := Lib.hid h
  have HR := Lib.hid (fun Q => read_bad s Q hs hu)
  clear ok hsz hg h hnt hu
  go_enter Try.func4, Try.ntmps4
  go_wp2_with fail
  refine (HS.out w H.out).mono ?_; rintro e w1 ⟨rfl, x1⟩
  have X1 := Lib.hid x1; clear x1
  go_wp2_with fail
  refine (HT.out w1).mono ?_; rintro e w2 ⟨B0, d0, rfl, sl, k1, k2, x2⟩
  have X2 := Lib.hid (X1.out.trans x2); have SL0 := Lib.hid sl; clear x2 sl k1 k2
  go_wp2_with fail
  refine (sameProgs_any B0 A t.size n d0 c t.flat t.flat w2 SL0.out (H.out.keep X2.out.keeps) (by have := HNT.out; unfold maxLen; omega) (by unfold maxLen; omega)).mono ?_; rintro e w3 ⟨rfl, m, rfl⟩
  rw [decide_eq_true (rfl : t.flat = t.flat)]
  have X3 := Lib.hid (X2.out.drewN m); clear SL0
  generalize w2.drewN m = w3 at *
  go_wp2_with fail
  refine (HR.out w3).mono ?_; rintro e w4 ⟨rfl, x4⟩
  have X4 := Lib.hid (X3.out.trans x4); clear x4
  go_wp2_with fail
  refine (textBegun_any w4).mono ?_; rintro e w5 ⟨rfl, x5⟩
  go_wp2
  go_ret
  exact ⟨rfl, X4.out.trans x5⟩
set_option maxHeartbeats 4000000 in
theorem back_bad_many (A : Option Addr) (n c : Nat) (p : List PNode) (hc : checkP p ≠ 0) (s : List UInt8) (w : World) (h : SlN w A n p) (hn : n ≤ maxLen) (hs : 4096 < s.length) (hm : s.length ≤ maxLen) :
    Calls Try.prog 4 #[.slice A n c, S s] w fun e w' => e = .returned (.bool true) ∧ Ext w w' := by
  have HS := Lib.hid (fun Q (hQ : SlN Q A n p) => show_bad A n c p Q hQ hn hc)
  generalize hq : checkP p = q at hc HS
  have g : (q == 0) = false := by simpa using hc
  have H := Lib.hid h
  have HR := Lib.hid (fun Q => read_many s Q hs hm)
  unfold maxLen at hm
  clear hq h
  go_enter Try.func4, Try.ntmps4
  go_wp2_with fail
  refine (HS.out w H.out).mono ?_; rintro e w1 ⟨rfl, x1⟩
  have X1 := Lib.hid x1; clear x1
  go_wp2_with fail
  refine (HR.out w1).mono ?_; rintro e w4 ⟨rfl, x4⟩
  have X4 := Lib.hid (X1.out.trans x4); clear x4
  go_wp2_with fail
  refine (textBegun_any w4).mono ?_; rintro e w5 ⟨rfl, x5⟩
  go_wp2
  go_ret
  exact ⟨rfl, X4.out.trans x5⟩
set_option maxHeartbeats 4000000 in
theorem back_bad_yes (A : Option Addr) (n c : Nat) (p : List PNode) (hc : checkP p ≠ 0) (s : List UInt8) (w : World) (h : SlN w A n p) (hn : n ≤ maxLen) (hs : s.length ≤ 4096) {u : Tr} (hu : progOfText s = some u) :
    Calls Try.prog 4 #[.slice A n c, S s] w fun e w' => e = .returned (.bool true) ∧ Ext w w' := by
  have HS := Lib.hid (fun Q (hQ : SlN Q A n p) => show_bad A n c p Q hQ hn hc)
  generalize hq : checkP p = q at hc HS
  have g : (q == 0) = false := by simpa using hc
  have H := Lib.hid h
  have HR := Lib.hid (fun Q => read_good s Q hs hu)
  obtain ⟨hus, uok, ugd, usz⟩ := progOf_some hu
  have HU := Lib.hid (fun (B : Option Addr) (d : Nat) Q (hQ : SlN Q B u.size u.flat) => show_ok B u.size d u Q hQ uok usz ugd)
  have HUS := Lib.hid hus
  have husl : (textT u).length ≤ 4096 := by rw [← hus]; exact hs
  clear hq h hu hus uok ugd usz
  go_enter Try.func4, Try.ntmps4
  go_wp2_with fail
  refine (HS.out w H.out).mono ?_; rintro e w1 ⟨rfl, x1⟩
  have X1 := Lib.hid x1; clear x1
  go_wp2_with fail
  refine (HR.out w1).mono ?_; rintro e w4 ⟨B, d, rfl, sl, k1, k2, x4⟩
  have X4 := Lib.hid (X1.out.trans x4); have SL := Lib.hid sl; clear x4 sl k1 k2
  go_wp2_with fail
  refine (HU.out B d w4 SL.out).mono ?_; rintro e w5 ⟨rfl, x5⟩
  rw [← HUS.out]
  have X5 := Lib.hid (X4.out.trans x5); clear x5
  go_wp2_with fail
  refine (textBegun_any w5).mono ?_; rintro e w6 ⟨rfl, x6⟩
  go_wp2
  go_ret
  exact ⟨by simp, X5.out.trans x6⟩
set_option maxHeartbeats 4000000 in
theorem back_bad_no (A : Option Addr) (n c : Nat) (p : List PNode) (hc : checkP p ≠ 0) (s : List UInt8) (w : World) (h : SlN w A n p) (hn : n ≤ maxLen) (hs : s.length ≤ 4096) (hu : progOfText s = none) :
    Calls Try.prog 4 #[.slice A n c, S s] w fun e w' => e = .returned (.bool true) ∧ Ext w w' := by
  have HS := Lib.hid (fun Q (hQ : SlN Q A n p) => show_bad A n c p Q hQ hn hc)
  generalize hq : checkP p = q at hc HS
  have g : (q == 0) = false := by simpa using hc
  have H := Lib.hid h
  have HR := Lib.hid (fun Q => read_bad s Q hs hu)
  clear hq h hu
  go_enter Try.func4, Try.ntmps4
  go_wp2_with fail
  refine (HS.out w H.out).mono ?_; rintro e w1 ⟨rfl, x1⟩
  have X1 := Lib.hid x1; clear x1
  go_wp2_with fail
  refine (HR.out w1).mono ?_; rintro e w4 ⟨rfl, x4⟩
  have X4 := Lib.hid (X1.out.trans x4); clear x4
  go_wp2_with fail
  refine (textBegun_any w4).mono ?_; rintro e w5 ⟨rfl, x5⟩
  go_wp2
  go_ret
  exact ⟨rfl, X4.out.trans x5⟩
theorem textBack_walk (A : Option Addr) (n c : Nat) (p : List PNode) (s : List UInt8) (w : World) (h : SlN w A n p) (hn : n ≤ maxLen) (hm : s.length ≤ maxLen) :
    Calls Try.prog 4 #[.slice A n c, S s] w fun e w' => e = .returned (.bool true) ∧ Ext w w' := by
  by_cases hc : checkP p = 0
  · obtain ⟨t, ok, rfl, hsz, hg⟩ := check_tree hc
    rcases Nat.lt_or_ge 4096 s.length with hs | hs
    · exact back_good_many A n c t ok hsz hg s w h hn hs hm
    · cases hu : progOfText s with
      | some u => exact back_good_yes A n c t ok hsz hg s w h hn hs hu
      | none => exact back_good_no A n c t ok hsz hg s w h hn hs hu
  · rcases Nat.lt_or_ge 4096 s.length with hs | hs
    · exact back_bad_many A n c p hc s w h hn hs hm
    · cases hu : progOfText s with
      | some u => exact back_bad_yes A n c p hc s w h hn hs hu
      | none => exact back_bad_no A n c p hc s w h hn hs hu
end Go.Proofs.Ytncakjhianmekaa
