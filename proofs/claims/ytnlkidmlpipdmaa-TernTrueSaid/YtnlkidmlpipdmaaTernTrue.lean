/- The body of TernTrue, from the contracts. -/
import Derived.Test.YtnlkidmlpipdmaaTernLaws
namespace Go.Proofs.Ytnlkidmlpipdmaa
open Go.RowKit

theorem tab_int : (Try.prog.info? 3).map (fun i => (i.zero, i.size, i.bytes)) = some (some (.int .i64 0), 1, 8) := by kernel_rfl

theorem ternTrue_err (A B : Option Addr) (n m c d : Nat) (xs ys : List Int) (w : World) (h : Sl w A n (xs.map I)) (h' : Sl w B m (ys.map I)) (hn : n ≤ maxLen) (hm : m ≤ maxLen)
    (p : Bool) (e : Int) (he : leqOfM xs ys = (p, e)) (h0 : (e != 0) = true) :
    Calls Try.prog 5 #[.slice A n c, .slice B m d] w fun e w' => e = .returned (.bool true) ∧ Ext w w' := by
  have H := Lib.hid h; clear h
  have H' := Lib.hid h'; clear h'
  have HE := Lib.hid he; clear he
  go_enter Try.func5, Try.ntmps5
  go_wp2_with fail
  refine (ternLeq_any A B n m c d xs ys w H.out H'.out hn hm).mono ?_; rintro e w1 ⟨rfl, h1⟩; rw [HE.out]
  go_wp2_with fail
  refine (ternBegun_any w1).mono ?_; rintro e w2 ⟨rfl, h2⟩
  go_wp2
  go_ret
  exact ⟨rfl, h1.trans h2⟩

theorem not_told {x : Int} (h : bad3 x = false) : toldM 6 [x] = (notM x, 0) := by
  have : [x].any bad3 = false := by simp [h]
  rw [toldM, this]; rfl
theorem ok_told (k : Int) {l : List Int} (h : l.any bad3 = false) : toldM k l = (ofM k l, 0) := by rw [toldM, h]; rfl
theorem turned_ok (l : List Int) : (l.map notM).any bad3 = false := by
  rw [List.any_eq_false]; intro x hx; obtain ⟨y, _, rfl⟩ := List.mem_map.1 hx; simp [notM_good]

set_option maxHeartbeats 2000000 in
theorem ternTrue_ok (A B : Option Addr) (n c d : Nat) (xs ys : List Int) (w : World) (h : Sl w A n (xs.map I)) (h' : Sl w B n (ys.map I)) (hn : n ≤ maxLen) (hreach : n * 8 ≤ 140737488351232)
    (hx : xs.any bad3 = false) (hy : ys.any bad3 = false) :
    Calls Try.prog 5 #[.slice A n c, .slice B n d] w fun e w' => e = .returned (.bool true) ∧ Ext w w' := by
  have hl : xs.length = ys.length := by rw [h.len, h'.len]
  have hL : leqOfM xs ys = (leqM xs ys, 0) := by simp [leqOfM, hx, hy, hl]
  have hlaw4 := leq_of 4 (.inl rfl) xs ys hl
  have hlaw5 := leq_of 5 (.inr rfl) xs ys hl
  have e1 := ok_told 4 hx; have e2 := ok_told 4 hy; have e3 := ok_told 5 hx; have e4 := ok_told 5 hy
  have e5 := ok_told 5 (turned_ok xs); rw [all_turned xs hx] at e5
  have e6 := not_told (ofM4_good xs)
  have hgood : ∀ x ∈ xs, bad3 x = false := fun x hm => by simpa using List.any_eq_false.1 hx x hm
  have hn' := hn; unfold maxLen at hn'
  have H := Lib.hid h; clear h
  have H' := Lib.hid h'; clear h'
  have HL := Lib.hid hL; have E1 := Lib.hid e1; have E2 := Lib.hid e2; have E3 := Lib.hid e3; have E4 := Lib.hid e4; have E5 := Lib.hid e5; have E6 := Lib.hid e6
  have HG := Lib.hid hgood
  clear hL e1 e2 e3 e4 e5 e6 hx hy hl hgood
  have P4 := Lib.hid hlaw4; have P5 := Lib.hid hlaw5; clear hlaw4 hlaw5
  go_enter Try.func5, Try.ntmps5
  go_wp2_with fail
  refine (ternLeq_any A B n n c d xs ys w H.out H'.out hn hn).mono ?_; rintro e W ⟨rfl, h1⟩; rw [HL.out]
  have S1 := Lib.hid (H.out.keep h1.keeps); have S2 := Lib.hid (H'.out.keep h1.keeps)
  go_wp2_with fail
  go_loopw [7, 8] (fun v i wr => ∃ (k : Nat) (zs : List Int), k ≤ n ∧ i = .int .i64 k ∧ Ext W wr ∧ wr.ownsRow W.heap.size 3 1 v k (zs.map I) ∧ zs ++ (xs.drop k).map notM = xs.map notM) (fun _ i _ => n - (intOf i).toNat)
  case atStart => exact ⟨0, [], Nat.zero_le _, rfl, Ext.refl _, World.ownsRow_nil _ _ _ _, rfl⟩
  case round =>
    obtain ⟨k, zs, hk, rfl, hext, hown, hM⟩ := hrel
    by_cases hlt : k < n
    · obtain ⟨ad, x, rfl, hc0, hd⟩ := S1.out.next hlt
      have hc := hext.keeps _ _ hc0
      have hbx : bad3 x = false := HG.out x (by have : x ∈ xs.drop k := by rw [hd]; simp
                                                exact List.mem_of_mem_drop this)
      have HT := Lib.hid (not_told hbx); clear hbx
      rw [hd, List.map_cons] at hM
      have HM := Lib.hid hM; clear hM hd hc0
      have HO := Lib.hid hown; clear hown
      go_wp2_with fail
      refine (ternNot_any x _).mono ?_; rintro e w1 ⟨rfl, hx1⟩; rw [HT.out]
      have HO1 := Lib.hid (own_ext HO.out hx1)
      have hx2 := hext.trans hx1
      clear hc
      go_wp2_with (at_builtin; refine wpList_push rfl (.tmp 48) (.tmp 50) 22 3 rfl tab_int Try.underlying22 rfl (by omega) W w1 hx2 _ k _ rfl HO1.out [I (notM x)] rfl rfl rfl (by simp [Value.oneCell']) (by unfold maxLen; omega) (by omega) ?_; intro v' w2 hown2 hx3 _)
      go_roundw
      case rel => exact ⟨k + 1, zs ++ [notM x], by omega, by go_num, hx3, by simpa using hown2, by rw [← HM.out]; simp⟩
      case measure => simp [intOf]; omega
    · rw [S1.out.drop_end hlt] at hM
      have hz : zs = xs.map notM := by simpa using hM
      have hkn : k = n := by omega
      clear hM
      subst hz
      subst hkn
      obtain ⟨C, cc, rfl, hcc, hcm, S3'⟩ := own_sl hown
      have S3 := Lib.hid S3'; clear S3' hown
      have hT1 := S1.out.keep hext.keeps; have hT2 := S2.out.keep hext.keeps
      have T1 := Lib.hid hT1; have T2 := Lib.hid hT2; clear hT1 hT2
      go_wp2_with fail
      refine (ternAll_any A k c xs _ T1.out hn).mono ?_; rintro e w' ⟨rfl, rfl⟩; rw [E1.out]
      go_wp2_with fail
      refine (ternAll_any B k d ys _ T2.out hn).mono ?_; rintro e w' ⟨rfl, rfl⟩; rw [E2.out]
      go_wp2_with fail
      refine (ternAny_any A k c xs _ T1.out hn).mono ?_; rintro e w' ⟨rfl, rfl⟩; rw [E3.out]
      go_wp2_with fail
      refine (ternAny_any B k d ys _ T2.out hn).mono ?_; rintro e w' ⟨rfl, rfl⟩; rw [E4.out]
      go_wp2_with fail
      refine (ternAny_any C k cc _ _ S3.out hn).mono ?_; rintro e w' ⟨rfl, rfl⟩; rw [E5.out]
      go_wp2_with fail
      refine (ternNot_any _ _).mono ?_; rintro e w1 ⟨rfl, hx1⟩; rw [E6.out]
      have hfin := (h1.trans hext).trans hx1
      clear hcc hcm hlt hk
      by_cases hq : leqM xs ys = true
      · rcases P4.out hq with q4 | q4 <;> rcases P5.out hq with q5 | q5
        all_goals
          have hq' := Lib.hid hq; have Q4 := Lib.hid q4; have Q5 := Lib.hid q5
          clear q4 q5
          try clear hq
          rw [hq'.out]
          first | rw [Q4.out] | skip
          first | rw [Q5.out] | skip
          go_wp2_with fail
          refine (ternBegun_any _).mono ?_; rintro e w5 ⟨rfl, hx5⟩
          go_wp2
          all_goals go_ret
          all_goals exact ⟨by simp, hfin.trans hx5⟩
      · have hq : leqM xs ys = false := by simpa using hq
        have hq' := Lib.hid hq; clear hq
        rw [hq'.out]
        go_wp2_with fail
        refine (ternBegun_any _).mono ?_; rintro e w5 ⟨rfl, hx5⟩
        go_wp2
        all_goals go_ret
        all_goals exact ⟨by simp, hfin.trans hx5⟩

theorem ternTrue_walk (A B : Option Addr) (n m c d : Nat) (xs ys : List Int) (w : World) (h : Sl w A n (xs.map I)) (h' : Sl w B m (ys.map I)) (hn : n ≤ maxLen) (hm : m ≤ maxLen) (hreach : n * 8 ≤ 140737488351232) :
    Calls Try.prog 5 #[.slice A n c, .slice B m d] w fun e w' => e = .returned (.bool true) ∧ Ext w w' := by
  by_cases hx : xs.any bad3 = true
  · exact ternTrue_err A B n m c d xs ys w h h' hn hm false 3 (by simp [leqOfM, hx]) rfl
  by_cases hy : ys.any bad3 = true
  · exact ternTrue_err A B n m c d xs ys w h h' hn hm false 3 (by simp only [leqOfM, hx, hy]; rfl) rfl
  have hx : xs.any bad3 = false := by simpa using hx
  have hy : ys.any bad3 = false := by simpa using hy
  by_cases hnm : n = m
  · subst hnm; exact ternTrue_ok A B n c d xs ys w h h' hn hreach hx hy
  · exact ternTrue_err A B n m c d xs ys w h h' hn hm false 1 (by simp [leqOfM, hx, hy, h.len, h'.len, hnm]) rfl
end Go.Proofs.Ytnlkidmlpipdmaa
