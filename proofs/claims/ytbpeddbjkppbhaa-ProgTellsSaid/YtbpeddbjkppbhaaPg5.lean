/- The reference's PartsOf and WaitsOf; play; what the begun check answers. -/
import Derived.Test.YtbpeddbjkppbhaaPg4
namespace Go.Proofs.Ytbpeddbjkppbhaa
open Go.RowKit

theorem rcheck_any' (A : Option Addr) (n c : Nat) (p : List PNode) (w : World) (h : SlN w A n p) (hn : n ≤ maxLen) :
    Calls Try.prog 42 #[.slice A n c] w fun e w' => e = .returned (I (checkP p)) ∧ w = w' := by
  rw [← rcheckP_eq]; exact rcheck_any A n c p w h hn

set_option maxHeartbeats 1000000 in
theorem rparts_of (A : Option Addr) (n c : Nat) (p : List PNode) (k : Int) (w : World) (h : SlN w A n p) (hn : n ≤ maxLen) :
    Calls Try.prog 41 #[.slice A n c, I k] w fun e w' => e = .returned (Pr4 (I (partsP p k).1.1) (I (partsP p k).1.2.1) (I (partsP p k).1.2.2) (I (partsP p k).2)) ∧ w = w' := by
  generalize hR : partsP p k = R
  unfold partsP at hR
  rw [h.1] at hR
  by_cases h0 : checkP p = 0
  · obtain ⟨hl, hK, _, _⟩ := checkP_ok h0
    have hall := @one_ok p h0
    rw [h.1] at hl hall
    rw [if_neg (by simp [h0])] at hR
    have HQ := Lib.hid h0; clear h0
    by_cases hb : k < 0 ∨ (n : Int) ≤ k
    · rw [if_pos hb] at hR
      have HR := Lib.hid hR; clear hR
      have HW : Hid ((decide (0 ≤ k) && decide (k ≤ (n : Int) - 1)) = false) := by unfold Hid; simp; omega
      have H := Lib.hid h; clear h hK hall hb
      go_enter Try.func41, Try.ntmps41
      go_wp2_with fail
      refine (rcheck_any' _ n c p w H.out hn).mono ?_; rintro e w' ⟨rfl, rfl⟩; rw [HQ.out]
      go_wp2_with fail
      refine (within_any' _ _ _ _).mono ?_; rintro e w' ⟨rfl, rfl⟩; rw [HW.out]
      go_wp2
      refine bodyPost_ret (results_tmp4 rfl _ _ _) rfl ?_
      exact ⟨by rw [← HR.out]; rfl, rfl⟩
    · rw [if_neg hb] at hR
      have HR := Lib.hid hR; clear hR
      obtain ⟨k, rfl⟩ := Int.eq_ofNat_of_zero_le (show 0 ≤ k by omega)
      have hkn : k < n := by omega
      have HW : Hid ((decide (0 ≤ (k : Int)) && decide ((k : Int) ≤ (n : Int) - 1)) = true) := by unfold Hid; simp; omega
      obtain ⟨b, off, x, rfl, hc, hc', hd, hx⟩ := h.next hkn
      have hx8 : x.kind ≤ 8 := by
        have := List.any_eq_false.1 hK x (List.mem_of_getElem? hx); simp [badKind] at this; omega
      have e2 := rtwo_eq hx8
      have hk1 := hall (k := k) (by omega)
      have hOf : ofP p k = if two x.kind then ((k : Int) + 1, oneM p ((k : Int) + 1), oneM p k) else (0, 0, oneM p k) := by unfold ofP; rw [hx]
      cases ht : two x.kind
      · have hl' := oneM_leaf hx ht
        have HT : Hid (rtwo x.kind = false) := by unfold Hid; rw [e2, ht]
        have HF : Hid (ofP p k = (0, 0, (k : Int) + 1)) := by unfold Hid; rw [hOf, ht, hl']; rfl
        have H := Lib.hid h; clear h hK hb hx hd e2 hall hk1 hOf ht hl'
        go_enter Try.func41, Try.ntmps41
        go_wp2_with fail
        refine (rcheck_any' _ n c p w H.out hn).mono ?_; rintro e w' ⟨rfl, rfl⟩; rw [HQ.out]
        go_wp2_with fail
        refine (within_any' _ _ _ _).mono ?_; rintro e w' ⟨rfl, rfl⟩; rw [HW.out]
        go_wp2_with fail
        refine (rparts_any _ _).mono ?_; rintro e w' ⟨rfl, rfl⟩; rw [HT.out]
        go_wp2
        refine bodyPost_ret (results_tmp4 rfl _ _ _) rfl ?_
        exact ⟨by rw [← HR.out, Int.toNat_natCast, HF.out]; rfl, rfl⟩
      · have hl' := oneM_two hx ht
        have HT : Hid (rtwo x.kind = true) := by unfold Hid; rw [e2, ht]
        have HF : Hid (ofP p k = ((k : Int) + 1, oneM p ((k : Int) + 1), oneM p k)) := by unfold Hid; rw [hOf, ht]; rfl
        have hne : oneM p ((k : Int) + 1) ≠ -1 := by
          intro e; rw [e, oneM_neg p (show (-1 : Int) < 0 by decide)] at hl'; omega
        have hk2 : k + 1 < n := by
          rcases Nat.lt_or_ge (k + 1) n with h1 | h1
          · exact h1
          · exact absurd (oneM_big p (by rw [h.1]; omega)) hne
        have c1 := fun W (hW : SlN W (some ⟨b, off, none⟩) n p) => end_any (some ⟨b, off, none⟩) n c p (k + 1) W hW (by omega) hK hk2 (by rw [show ((k + 1 : Nat) : Int) = (k : Int) + 1 from by omega]; exact hne)
        have c2 := fun W (hW : SlN W (some ⟨b, off, none⟩) n p) => end_any (some ⟨b, off, none⟩) n c p k W hW (by omega) hK hkn (by omega)
        rw [show ((k + 1 : Nat) : Int) = (k : Int) + 1 from by omega] at c1
        have C1 := Lib.hid c1; have C2 := Lib.hid c2
        have H := Lib.hid h; clear h hK hb hx hd e2 hall hk1 hOf ht hl' hne c1 c2
        go_enter Try.func41, Try.ntmps41
        go_wp2_with fail
        refine (rcheck_any' _ n c p w H.out hn).mono ?_; rintro e w' ⟨rfl, rfl⟩; rw [HQ.out]
        go_wp2_with fail
        refine (within_any' _ _ _ _).mono ?_; rintro e w' ⟨rfl, rfl⟩; rw [HW.out]
        go_wp2_with fail
        refine (rparts_any _ _).mono ?_; rintro e w' ⟨rfl, rfl⟩; rw [HT.out]
        go_wp2_with fail
        refine (C1.out w H.out).mono ?_; rintro e w' ⟨rfl, rfl⟩
        go_wp2_with fail
        refine (C2.out w H.out).mono ?_; rintro e w' ⟨rfl, rfl⟩
        go_wp2
        refine bodyPost_ret (results_tmp4 rfl _ _ _) rfl ?_
        exact ⟨by rw [← HR.out, Int.toNat_natCast, HF.out]; rfl, rfl⟩
  · have g : (checkP p != 0) = true := by simpa using h0
    rw [if_pos h0] at hR
    generalize hq : checkP p = q at *
    have HR := Lib.hid hR; have HQ := Lib.hid hq
    have H := Lib.hid h
    clear hR h0 h hq
    go_enter Try.func41, Try.ntmps41
    go_wp2_with fail
    refine (rcheck_any' _ n c p w H.out hn).mono ?_; rintro e w1 ⟨rfl, rfl⟩; rw [HQ.out]
    go_wp2
    refine bodyPost_ret (results_tmp4 rfl _ _ _) rfl ?_
    exact ⟨by rw [← HR.out]; rfl, rfl⟩

set_option maxHeartbeats 1000000 in
theorem rwaits_of (A : Option Addr) (n c : Nat) (p : List PNode) (w : World) (h : SlN w A n p) (hn14 : n ≤ 14) :
    Calls Try.prog 43 #[.slice A n c] w fun e w' => ∃ v, e = .returned v ∧ w'.ownsRow w.heap.size 4 1 v n ((waitsP p).map Bv) ∧ Ext w w' := by
  have H := Lib.hid h; clear h
  go_enter Try.func43, Try.ntmps43
  go_wp2
  go_loopw [3, 4] (fun v i wr => ∃ (k : Nat) (zs : List Bool), k ≤ n ∧ i = .int .i64 k ∧ Ext w wr ∧ wr.ownsRow w.heap.size 4 1 v k (zs.map Bv) ∧ zs ++ waitsP (p.drop k) = waitsP p) (fun _ i _ => n - (intOf i).toNat)
  case atStart => exact ⟨0, [], Nat.zero_le _, rfl, Ext.refl _, World.ownsRow_nil _ _ _ _, rfl⟩
  case round =>
    obtain ⟨k, zs, hk, rfl, hext, hown, hM⟩ := hrel
    by_cases hlt : k < n
    · obtain ⟨b, off, x, rfl, hc0, hc0', hd, hx⟩ := H.out.next hlt
      have hc := hext.keeps _ _ hc0
      have hc' := hext.keeps _ _ hc0'
      rw [hd] at hM
      have HM := Lib.hid hM; clear hM hd hx hc0 hc0'
      have HO := Lib.hid hown; clear hown
      go_wp2_with (first | (go_at_call 118; with_reducible refine (rwaits_any _ _).mono ?_; rintro e w' ⟨rfl, rfl⟩) | (at_builtin; refine wpList_push rfl (.tmp 11) (.tmp 18) 26 4 rfl tab_bool Try.underlying26 rfl (by omega) w wr hext _ k _ rfl HO.out [Bv (waitK x.kind)] rfl rfl rfl (by simp [Value.oneCell']) (by unfold maxLen; omega) (by omega) ?_; intro v' w2 hown2 hx3 _))
      go_roundw
      case rel => exact ⟨k + 1, zs ++ [waitK x.kind], by omega, by go_num, hx3, by simpa using hown2, by rw [← HM.out]; simp [waitsP]⟩
      case measure => simp [intOf]; omega
    · rw [H.out.drop_end hlt] at hM
      have hkn : k = n := by omega
      subst hkn
      have hz : zs = waitsP p := by rw [← hM]; simp [waitsP]
      subst hz
      have HO := Lib.hid hown
      clear hM hown
      go_wp2
      go_ret
      exact ⟨_, rfl, HO.out, hext⟩

theorem play_any (w : World) : Calls Try.prog 119 #[] w fun e w' => e = .returned (.slice (some ⟨w.heap.size, 0, none⟩) 13 13) ∧ w.alloc (.cells #[.int .i64 5, .int .i64 0, .int .i64 6, .int .i64 0, .int .i64 5, .int .i64 0, .int .i64 4, .int .i64 0, .int .i64 3, .int .i64 0, .int .i64 5, .int .i64 0, .int .i64 1, .int .i64 0, .int .i64 3, .int .i64 1, .int .i64 5, .int .i64 0, .int .i64 1, .int .i64 0, .int .i64 8, .int .i64 0, .int .i64 3, .int .i64 2, .int .i64 2, .int .i64 0] 120) = w' := by
  go_enter Try.func119, Try.ntmps119
  go_wp2
  go_ret
  exact ⟨rfl, rfl⟩

/-- choose: the raw number's place among n. -/
def chooseM (c n : Int) : Int := (if c < 0 then -(c + 1) else c) % n
theorem choose_any (c : Int) (n : Nat) (w : World) (hn : 0 < n) (hn2 : n ≤ 9223372036854775807) (hc1 : -9223372036854775808 ≤ c) (hc2 : c ≤ 9223372036854775807) :
    Calls Try.prog 47 #[I c, I n] w fun e w' => e = .returned (I (chooseM c n)) ∧ w = w' := by
  have hn0 : (0 : Int) < (n : Int) := by omega
  by_cases h : c < 0
  · have HM : Hid (-((c + 1).tmod n) = chooseM c n) := by
      unfold Hid chooseM; rw [if_pos h, ← Int.neg_tmod, Int.tmod_eq_emod_of_nonneg (by omega)]
    go_enter Try.func47, Try.ntmps47
    go_wp2
    go_ret; exact ⟨ret_int HM.out, rfl⟩
  · have HM : Hid (c % n = chooseM c n) := by unfold Hid chooseM; rw [if_neg h]
    go_enter Try.func47, Try.ntmps47
    go_wp2
    go_ret; exact ⟨ret_int HM.out, rfl⟩
theorem choose_range (c : Int) (n : Nat) (hn : 0 < n) : 0 ≤ chooseM c n ∧ chooseM c n < n :=
  ⟨Int.emod_nonneg _ (by omega), Int.emod_lt_of_pos _ (by omega)⟩

theorem sl3 (b : Nat) (w : World) (T : TypeId) (hb : b = w.heap.size) : Sl (w.alloc (.cells #[.bool false, .bool true, .bool false] T)) (some ⟨b, 0, none⟩) 3 ([false, true, false].map Bv) :=
  Sl.newAt w b [Bv false, Bv true, Bv false] T hb

set_option maxHeartbeats 2000000 in
theorem progBegun_any (w : World) : Calls Try.prog 44 #[] w fun e w' => e = .returned (.bool true) ∧ Ext w w' := by
  have hml : ∀ n : Nat, n ≤ 14 → n ≤ maxLen := fun n h => by unfold maxLen; omega
  go_enter Try.func44, Try.ntmps44
  go_wp2_with fail
  refine (play_any _).mono ?_; rintro e w1 ⟨rfl, rfl⟩
  go_wp2_with fail
  refine (parts_any _ 13 13 playM 1 _ (by exact Sl2.newAt PK PS w _ playM _ _ rfl rfl) (hml _ (by omega))).mono ?_; rintro e w1 ⟨rfl, h1⟩; rw [show partsP playM 1 = ((2, 5, 8), 0) from by decide]
  have x1 := (((Ext.refl w).alloc _).trans h1); clear h1
  go_wp2_with fail
  refine (play_any _).mono ?_; rintro e w2 ⟨rfl, rfl⟩
  go_wp2_with fail
  refine (waits_ok _ 3 11 ((playM.drop 2).take 3) _ (by exact Sl2.sub (Sl2.newAt PK PS w1 _ playM _ _ rfl rfl) 2 3 (by decide)) (hml _ (by omega)) (by decide)).mono ?_; rintro e w2 ⟨v, rfl, hown, h2⟩
  have x2 := (x1.alloc _).trans h2
  obtain ⟨A, cc, rfl, _, _, hs⟩ := own_sl hown
  rw [show waitsP ((playM.drop 2).take 3) = [false, true, false] from by decide] at hs
  have HS := Lib.hid hs; clear hs hown x1 h2
  go_wp2_with fail
  refine (play_any _).mono ?_; rintro e w3 ⟨rfl, rfl⟩
  go_wp2_with fail
  refine (parts_any _ 13 13 playM 13 _ (by exact Sl2.newAt PK PS w2 _ playM _ _ rfl rfl) (hml _ (by omega))).mono ?_; rintro e w3 ⟨rfl, h3⟩; rw [show partsP playM 13 = ((0, 0, 0), 3) from by decide]
  have h23 := (((Ext.refl w2).alloc _).trans h3)
  have x3 := x2.trans h23
  have HS3 := Lib.hid (HS.out.keep h23.keeps); clear HS h3 h23 x2
  go_wp2_with fail
  refine (play_any _).mono ?_; rintro e w4 ⟨rfl, rfl⟩
  go_wp2_with fail
  refine (play_any _).mono ?_; rintro e w4 ⟨rfl, rfl⟩
  go_wp2_with fail
  have hX : SlN (w3.alloc (.cells #[.int .i64 5, .int .i64 0, .int .i64 6, .int .i64 0, .int .i64 5, .int .i64 0, .int .i64 4, .int .i64 0, .int .i64 3, .int .i64 3, .int .i64 5, .int .i64 0, .int .i64 1, .int .i64 0, .int .i64 3, .int .i64 1, .int .i64 5, .int .i64 0, .int .i64 1, .int .i64 0, .int .i64 8, .int .i64 0, .int .i64 3, .int .i64 2, .int .i64 2, .int .i64 0] 120)) (some ⟨w3.heap.size, 0, none⟩) 13 (playM.set 4 ⟨3, 3⟩) :=
    Sl2.newAt PK PS w3 _ (playM.set 4 ⟨3, 3⟩) _ _ rfl rfl
  refine (progCheck_any _ 13 13 playM _ (by exact Sl2.newAt PK PS _ _ playM _ _ (by simp) rfl) (hml _ (by omega))).mono ?_; rintro e w4 ⟨rfl, h4⟩; rw [show checkP playM = 0 from by decide]
  have hk4 := ((Ext.refl _).alloc _).trans h4
  have hX4 := Lib.hid (hX.keep hk4.keeps)
  have x4 := (x3.alloc _).trans hk4
  have HS4 := Lib.hid (HS3.out.keep ((((Ext.refl w3).alloc _).trans hk4).keeps))
  clear hX hk4 h4 HS3 x3
  go_wp2_with fail
  refine (play_any _).mono ?_; rintro e w5 ⟨rfl, rfl⟩
  go_wp2_with fail
  refine (progCheck_any _ 12 13 ((playM.drop 0).take 12) _ (by exact Sl2.sub (Sl2.newAt PK PS w4 _ playM _ _ rfl rfl) 0 12 (by decide)) (hml _ (by omega))).mono ?_; rintro e w5 ⟨rfl, h5⟩; rw [show checkP ((playM.drop 0).take 12) = 1 from by decide]
  have hk5 := ((Ext.refl w4).alloc _).trans h5
  have x5 := x4.trans hk5
  have hX5 := Lib.hid (hX4.out.keep hk5.keeps)
  have HS5 := Lib.hid (HS4.out.keep hk5.keeps)
  clear hX4 HS4 x4 h5 hk5
  go_wp2_with fail
  refine (progCheck_any _ 0 0 [] _ (Sl2.nil _ _ _ _) (hml _ (by omega))).mono ?_; rintro e w6 ⟨rfl, h6⟩; rw [show checkP [] = 1 from by decide]
  have x6 := x5.trans h6
  have hX6 := Lib.hid (hX5.out.keep h6.keeps)
  have HS6 := Lib.hid (HS5.out.keep h6.keeps)
  clear hX5 HS5 x5 h6
  go_wp2_with fail
  refine (progCheck_any _ 13 13 _ _ hX6.out (hml _ (by omega))).mono ?_; rintro e w7 ⟨rfl, h7⟩; rw [show checkP (playM.set 4 ⟨3, 3⟩) = 3 from by decide]
  have x7 := x6.trans h7
  have HS7 := Lib.hid (HS6.out.keep h7.keeps)
  clear hX6 HS6 x6 h7
  go_wp2_with fail
  refine (sameBools_any A _ 3 3 cc 3 _ [false, true, false] _ (HS7.out.keep (Keeps.alloc _ _)) (by exact sl3 _ _ _ (by simp)) (hml _ (by omega)) (hml _ (by omega))).mono ?_; rintro e w8 ⟨rfl, m, rfl⟩
  go_wp2
  go_ret
  exact ⟨by simp, (x7.alloc _).drewN _⟩
end Go.Proofs.Ytbpeddbjkppbhaa
