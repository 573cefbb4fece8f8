/- The bodies of ProgTells and ProgTrue, from the contracts. -/
import Derived.Test.YtbpeddbjkppbhaaPg5
namespace Go.Proofs.Ytbpeddbjkppbhaa
open Go.RowKit

theorem waits_err (A : Option Addr) (n c : Nat) (p : List PNode) (w : World) (h : SlN w A n p) (hn : n ≤ maxLen) (e : Int) (he : checkP p = e) (h0 : (e != 0) = true) :
    Calls Try.prog 40 #[.slice A n c] w fun e' w' => e' = .returned (Pr (.slice none 0 0) (I e)) ∧ Ext w w' := by
  have H := Lib.hid h; clear h
  have HQ := Lib.hid he; clear he
  go_enter Try.func40, Try.ntmps40
  go_wp2_with fail
  refine (progCheck_any _ n c p w H.out hn).mono ?_; rintro e w1 ⟨rfl, x1⟩; rw [HQ.out]
  go_wp2
  go_ret2
  exact ⟨rfl, x1⟩

set_option maxHeartbeats 1000000 in
theorem progTells_walk (A : Option Addr) (n c : Nat) (p : List PNode) (k : Int) (w : World) (h : SlN w A n p) (hn : n ≤ maxLen) :
    Calls Try.prog 3 #[.slice A n c, I k] w fun e w' => e = .returned (.bool true) ∧ Ext w w' := by
  by_cases h0 : checkP p = 0
  · have hn14 : n ≤ 14 := by have := (checkP_ok h0).1; rw [h.1] at this; exact this
    have HQ := Lib.hid h0; clear h0
    have H := Lib.hid h; clear h
    go_enter Try.func3, Try.ntmps3
    go_wp2_with fail
    refine (parts_any A n c p k w H.out hn).mono ?_; rintro e w1 ⟨rfl, x1⟩
    go_wp2_with fail
    refine (waits_ok A n c p w1 (H.out.keep x1.keeps) hn HQ.out).mono ?_; rintro e w2 ⟨v, rfl, hown, h2⟩
    have x2 := x1.trans h2
    obtain ⟨B, cc, rfl, _, _, hs⟩ := own_sl hown
    have HS := Lib.hid hs; clear hs hown h2 x1
    go_wp2_with fail
    refine (rparts_of A n c p k w2 (H.out.keep x2.keeps) hn).mono ?_; rintro e w3 ⟨rfl, rfl⟩
    go_wp2_with fail
    refine (rcheck_any' A n c p w2 (H.out.keep x2.keeps) hn).mono ?_; rintro e w3 ⟨rfl, rfl⟩; rw [HQ.out]
    go_wp2_with fail
    refine (rwaits_of A n c p w2 (H.out.keep x2.keeps) hn14).mono ?_; rintro e w3 ⟨v, rfl, hown, h3⟩
    have x3 := x2.trans h3
    obtain ⟨B', cc', rfl, _, _, hs⟩ := own_sl hown
    have HS' := Lib.hid hs
    have HS3 := Lib.hid (HS.out.keep h3.keeps); clear hs hown h3 x2 HS
    go_wp2_with fail
    refine (progBegun_any _).mono ?_; rintro e w4 ⟨rfl, h4⟩
    have x4 := x3.trans h4
    have HS4 := Lib.hid (HS3.out.keep h4.keeps); have HS4' := Lib.hid (HS'.out.keep h4.keeps); clear HS3 HS' h4 x3
    go_wp2_with fail
    refine (progCheck_any A n c p w4 (H.out.keep x4.keeps) hn).mono ?_; rintro e w5 ⟨rfl, h5⟩; rw [HQ.out]
    have x5 := x4.trans h5
    have HS5 := Lib.hid (HS4.out.keep h5.keeps); have HS5' := Lib.hid (HS4'.out.keep h5.keeps); clear HS4 HS4' h5 x4
    go_wp2_with fail
    refine (sameBools_any B B' n n cc cc' _ _ w5 HS5.out HS5'.out hn hn).mono ?_; rintro e w6 ⟨rfl, m, rfl⟩
    go_wp2
    go_ret
    exact ⟨by simp, x5.drewN _⟩
  · have g : (checkP p != 0) = true := by simpa using h0
    have g' : (checkP p == 0) = false := by simpa using h0
    have HZ := Lib.hid h0
    generalize hq : checkP p = q at *
    have HQ := Lib.hid hq
    have H := Lib.hid h; clear h h0 hq
    go_enter Try.func3, Try.ntmps3
    go_wp2_with fail
    refine (parts_any A n c p k w H.out hn).mono ?_; rintro e w1 ⟨rfl, x1⟩
    go_wp2_with fail
    refine (waits_err A n c p w1 (H.out.keep x1.keeps) hn q HQ.out g).mono ?_; rintro e w2 ⟨rfl, h2⟩
    have x2 := x1.trans h2; clear h2 x1
    go_wp2_with fail
    refine (rparts_of A n c p k w2 (H.out.keep x2.keeps) hn).mono ?_; rintro e w3 ⟨rfl, rfl⟩
    go_wp2_with fail
    refine (rcheck_any' A n c p w2 (H.out.keep x2.keeps) hn).mono ?_; rintro e w3 ⟨rfl, rfl⟩; rw [HQ.out]
    go_wp2_with fail
    refine (progBegun_any _).mono ?_; rintro e w4 ⟨rfl, h4⟩
    have x4 := x2.trans h4; clear h4 x2
    go_wp2_with fail
    refine (progCheck_any A n c p w4 (H.out.keep x4.keeps) hn).mono ?_; rintro e w5 ⟨rfl, h5⟩; rw [HQ.out]
    have x5 := x4.trans h5; clear h5 x4
    go_wp2_with fail
    refine (sameBools_any none none 0 0 0 0 [] [] w5 (Sl.nil _ _) (Sl.nil _ _) (Nat.zero_le _) (Nat.zero_le _)).mono ?_; rintro e w6 ⟨rfl, m, rfl⟩
    go_wp2
    go_ret
    exact ⟨by simp, x5.drewN _⟩

/-! ProgTrue: plain laws -/
theorem skipN_take (d : List PNode) : ∀ (n : Nat) (r : List PNode), skipN n (d ++ r) = some r → skipN n d = some [] := by
  induction d with
  | nil =>
    intro n r h
    cases n with
    | zero => rfl
    | succ n =>
      rw [show n + 1 = 1 + n from by omega, skipN_add] at h
      simp only [List.nil_append] at h
      cases hs : skipN 1 r with
      | none => rw [hs] at h; simp at h
      | some r' =>
        rw [hs] at h
        simp only [Option.bind_some] at h
        have h1 := skip_lt hs
        obtain ⟨d', hd'⟩ := skipN_suffix _ _ _ h
        have := congrArg List.length hd'; simp at this; omega
  | cons x d ih =>
    intro n r h
    cases n with
    | zero =>
      rw [skipN_zero] at h
      have := congrArg List.length (Option.some.inj h); simp at this; omega
    | succ n => simp only [List.cons_append, skipN] at h ⊢; exact ih _ _ h
theorem sub_ok {p : List PNode} (h : checkP p = 0) {i : Nat} (hi : i < p.length) :
    checkP ((p.drop i).take ((oneM p i).toNat - i)) = 0 := by
  obtain ⟨hl, hK, hS, hs⟩ := checkP_ok h
  obtain ⟨r, hr⟩ := skipN_some_drop p 1 hs i hi
  obtain ⟨d, hd⟩ := skipN_suffix _ _ _ hr
  have h0 : ¬ (i : Int) < 0 := by omega
  have ho : oneM p i = (p.length : Int) - r.length := by simp only [oneM, h0, if_false, Int.toNat_natCast, hr]
  have hlen := congrArg List.length hd
  simp at hlen
  have e : (oneM p i).toNat - i = d.length := by omega
  rw [e, hd, List.take_left']
  · have hmem : ∀ x ∈ d, x ∈ p := fun x hx => List.mem_of_mem_drop (i := i) (by rw [hd]; simp [hx])
    have k1 : d.any badKind = false := by
      rw [List.any_eq_false]; exact fun x hx => List.any_eq_false.1 hK x (hmem x hx)
    have k2 : d.any badSig = false := by
      rw [List.any_eq_false]; exact fun x hx => List.any_eq_false.1 hS x (hmem x hx)
    have k3 : oneM d 0 = d.length := by
      rw [skip_all]; rw [hd] at hr; exact skipN_take d 1 r hr
    have k0 : ¬ 14 < d.length := by omega
    simp [checkP, k0, k1, k2, k3]
  · rfl
theorem partsP_at {p : List PNode} (h : checkP p = 0) {i : Nat} (hi : i < p.length) : partsP p i = (ofP p i, 0) := by
  have h1 : ¬ ((i : Int) < 0 ∨ (p.length : Int) ≤ i) := by omega
  rw [partsP, if_neg (by simp [h]), if_neg h1, Int.toNat_natCast]

set_option maxRecDepth 100000 in
set_option maxHeartbeats 2000000 in
theorem progTrue_walk (A : Option Addr) (n c : Nat) (p : List PNode) (k : Int) (w : World) (h : SlN w A n p) (hn : n ≤ maxLen) (hcap : n ≤ c) (hcm : c ≤ maxLen) (hk : (Lit.int .i64 k).wf = true) :
    Calls Try.prog 4 #[.slice A n c, I k] w fun e w' => e = .returned (.bool true) ∧ Ext w w' := by
  have hkr : -9223372036854775808 ≤ k ∧ k ≤ 9223372036854775807 := by simpa [Lit.wf, IntKind.min, IntKind.max, IntKind.signed, IntKind.bits] using hk
  clear hk
  by_cases h0 : checkP p = 0
  · obtain ⟨hn14, _, _, hs⟩ := checkP_ok h0
    rw [h.1] at hn14
    have hn0 : 0 < n := by
      rcases Nat.eq_zero_or_pos n with e | e
      · have : p = [] := List.eq_nil_of_length_eq_zero (by rw [h.1, e])
        subst this; simp [skipN] at hs
      · exact e
    obtain ⟨hc1, hc2⟩ := choose_range k n hn0
    obtain ⟨i, hi⟩ : ∃ i : Nat, chooseM k n = i := ⟨(chooseM k n).toNat, by omega⟩
    have hin : i < n := by omega
    obtain ⟨b, off, x, rfl, -, -, -, hx⟩ := h.next hin
    have hil : i < p.length := by rw [h.1]; exact hin
    obtain ⟨o1, o2⟩ := one_ok h0 hil
    obtain ⟨q, hq⟩ : ∃ q : Nat, oneM p i = q := ⟨(oneM p i).toNat, by omega⟩
    have hsub := sub_ok h0 hil
    have hP := partsP_at h0 hil
    rw [h.1] at o2
    rw [hq] at o1 o2 hsub
    rw [Int.toNat_natCast] at hsub
    have hqn : q ≤ n := by omega
    have hiq : i < q := by omega
    have hcm' := hcm; unfold maxLen at hcm'
    have HI := Lib.hid hi
    have HQ := Lib.hid h0
    have HSub := Lib.hid hsub
    have HP := Lib.hid hP
    have hOf : ofP p i = if two x.kind then ((i : Int) + 1, oneM p ((i : Int) + 1), oneM p i) else (0, 0, oneM p i) := by unfold ofP; rw [hx]
    rw [hq] at hOf
    have b1 : ((n : Int) == 0) = false := by simp; omega
    have b2 : decide (q ≤ i) = false := by simp; omega
    have b3 : decide (n < q) = false := by simp; omega
    cases ht : two x.kind
    · have hl' := oneM_leaf hx ht
      rw [ht] at hOf
      have hqi : (q : Int) = (i : Int) + 1 := by rw [← hq, hl']
      have HO : Hid (ofP p i = (0, 0, (q : Int))) := by unfold Hid; rw [hOf]; rfl
      have HQI := Lib.hid hqi
      have H := Lib.hid h
      clear h hs hc1 hc2 hi hil o1 o2 hq hsub hP h0 hOf ht hl' hqi hx
      go_enter Try.func4, Try.ntmps4
      go_wp2_with fail
      refine (progCheck_any _ n c p w H.out hn).mono ?_; rintro e w1 ⟨rfl, x1⟩; rw [HQ.out]
      go_wp2_with fail
      refine (choose_any k n w1 hn0 (by omega) hkr.1 hkr.2).mono ?_; rintro e w' ⟨rfl, rfl⟩; rw [HI.out]
      go_wp2_with fail
      refine (parts_any _ n c p i w1 (H.out.keep x1.keeps) hn).mono ?_; rintro e w2 ⟨rfl, h2⟩; rw [HP.out, HO.out]
      have x2 := x1.trans h2; clear x1 h2
      go_wp2_with fail
      refine (progCheck_any _ (q - i) (c - i) _ w2 (Sl2.sub (H.out.keep x2.keeps) i (q - i) (by omega)) (by unfold maxLen; omega)).mono ?_; rintro e w3 ⟨rfl, h3⟩; rw [HSub.out]
      have x3 := x2.trans h3; clear x2 h3
      go_wp2_with fail
      refine (progBegun_any _).mono ?_; rintro e w4 ⟨rfl, h4⟩
      go_wp2
      go_ret
      exact ⟨by simp [HQI.out], x3.trans h4⟩
    · have hl' := oneM_two hx ht
      rw [ht] at hOf
      have hne : oneM p ((i : Int) + 1) ≠ -1 := by
        intro e; rw [e, oneM_neg p (show (-1 : Int) < 0 by decide)] at hl'; omega
      have hr := oneM_range p ((i : Int) + 1)
      obtain ⟨m, hm⟩ : ∃ m : Nat, oneM p ((i : Int) + 1) = m := ⟨(oneM p ((i : Int) + 1)).toNat, by omega⟩
      rw [hm] at hr hl' hOf
      rw [hq] at hl'
      have hr2 := oneM_range p (m : Int)
      rw [← hl'] at hr2
      have him : i + 1 < m := by omega
      have hmq : m < q := by omega
      have hi1 : i + 1 < n := by omega
      have hP1 := partsP_at h0 (i := i + 1) (by rw [h.1]; omega)
      have hP2 := partsP_at h0 (i := m) (by rw [h.1]; omega)
      obtain ⟨_, _, x1', -, -, -, -, hx1'⟩ := h.next hi1
      obtain ⟨_, _, x2', -, -, -, -, hx2'⟩ := h.next (show m < n by omega)
      have t1 : (ofP p (i + 1)).2.2 = (m : Int) := by
        unfold ofP; rw [hx1']
        have : oneM p ((i + 1 : Nat) : Int) = m := by rw [show ((i + 1 : Nat) : Int) = (i : Int) + 1 from by omega, hm]
        simp only [this]; split <;> rfl
      have t2 : (ofP p m).2.2 = (q : Int) := by unfold ofP; rw [hx2']; simp only [← hl']; split <;> rfl
      rw [show ((i + 1 : Nat) : Int) = (i : Int) + 1 from by omega] at hP1
      have HP1 := Lib.hid hP1; have HP2 := Lib.hid hP2; have T1 := Lib.hid t1; have T2 := Lib.hid t2
      have HO : Hid (ofP p i = ((i : Int) + 1, (m : Int), (q : Int))) := by unfold Hid; rw [hOf]; rfl
      have b4 : (((i : Int) + 1) == 0) = false := by simp; omega
      have b5 : decide ((m : Int) ≤ (i : Int) + 1) = false := by simp; omega
      have b6 : decide (q ≤ m) = false := by simp; omega
      have H := Lib.hid h
      clear h hs hc1 hc2 hi hil o1 o2 hq hsub hP h0 hOf ht hl' hx hne hr hr2 hm hP1 hP2 t1 t2 hx1' hx2'
      go_enter Try.func4, Try.ntmps4
      go_wp2_with fail
      refine (progCheck_any _ n c p w H.out hn).mono ?_; rintro e w1 ⟨rfl, x1⟩; rw [HQ.out]
      go_wp2_with fail
      refine (choose_any k n w1 hn0 (by omega) hkr.1 hkr.2).mono ?_; rintro e w' ⟨rfl, rfl⟩; rw [HI.out]
      go_wp2_with fail
      refine (parts_any _ n c p i w1 (H.out.keep x1.keeps) hn).mono ?_; rintro e w2 ⟨rfl, h2⟩; rw [HP.out, HO.out]
      have x2 := x1.trans h2; clear x1 h2
      go_wp2_with fail
      refine (progCheck_any _ (q - i) (c - i) _ w2 (Sl2.sub (H.out.keep x2.keeps) i (q - i) (by omega)) (by unfold maxLen; omega)).mono ?_; rintro e w3 ⟨rfl, h3⟩; rw [HSub.out]
      have x3 := x2.trans h3; clear x2 h3
      go_wp2_with fail
      refine (parts_any _ n c p _ w3 (H.out.keep x3.keeps) hn).mono ?_; rintro e w4 ⟨rfl, h4⟩; rw [HP1.out]
      have x4 := x3.trans h4; clear x3 h4
      go_wp2_with fail
      refine (parts_any _ n c p _ w4 (H.out.keep x4.keeps) hn).mono ?_; rintro e w5 ⟨rfl, h5⟩; rw [HP2.out]
      have x5 := x4.trans h5; clear x4 h5
      go_wp2_with fail
      refine (progBegun_any _).mono ?_; rintro e w6 ⟨rfl, h6⟩
      go_wp2
      go_ret
      exact ⟨by simp [T1.out, T2.out], x5.trans h6⟩
  · have g : (checkP p != 0) = true := by simpa using h0
    generalize hq : checkP p = q at *
    have HQ := Lib.hid hq
    have H := Lib.hid h; clear h h0 hq
    go_enter Try.func4, Try.ntmps4
    go_wp2_with fail
    refine (progCheck_any A n c p w H.out hn).mono ?_; rintro e w1 ⟨rfl, x1⟩; rw [HQ.out]
    go_wp2_with fail
    refine (progBegun_any _).mono ?_; rintro e w4 ⟨rfl, h4⟩
    go_wp2
    go_ret
    exact ⟨rfl, x1.trans h4⟩
end Go.Proofs.Ytbpeddbjkppbhaa
