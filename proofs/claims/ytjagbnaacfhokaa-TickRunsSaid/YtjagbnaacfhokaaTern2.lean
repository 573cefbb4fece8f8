/- tern.Leq walked; what the begun check answers. -/
import Derived.Test.YtjagbnaacfhokaaTern
namespace Go.Proofs.Ytjagbnaacfhokaa
set_option linter.unusedVariables false
set_option linter.unusedSimpArgs false
open Go.RowKit

theorem two_cells (w : World) (a b : Value) (T : TypeId) : (w.alloc (.cells #[a, b] T)).cell? ⟨w.heap.size, 0, none⟩ = some a ∧ (w.alloc (.cells #[a, b] T)).cell? ⟨w.heap.size, 1, none⟩ = some b :=
  ⟨by rw [World.cell?_alloc_new]; rfl, by rw [World.cell?_alloc_new]; rfl⟩

set_option maxHeartbeats 1000000 in
theorem ternLeq_any (A B : Option Addr) (n m c d : Nat) (xs ys : List Int) (w : World) (h : Sl w A n (xs.map I)) (h' : Sl w B m (ys.map I)) (hn : n ≤ maxLen) (hm : m ≤ maxLen) :
    Calls Try.prog 40 #[.slice A n c, .slice B m d] w fun e w' => e = .returned (Pr (.bool (leqOfM xs ys).1) (I (leqOfM xs ys).2)) ∧ Ext w w' := by
  have hl : xs.length = n := h.len
  have hl' : ys.length = m := h'.len
  generalize hR : leqOfM xs ys = R
  unfold leqOfM at hR
  rw [hl, hl'] at hR
  clear hl hl'
  have H := Lib.hid h; clear h
  have H' := Lib.hid h'; clear h'
  have HR := Lib.hid hR; clear hR
  have hn' := hn; have hm' := hm
  unfold maxLen at hn' hm'
  obtain ⟨W, hW⟩ : ∃ W : World, W = w.alloc (.cells #[.slice A n c, .slice B m d] 24) := ⟨_, rfl⟩
  obtain ⟨q0, q1⟩ := two_cells w (.slice A n c) (.slice B m d) 24
  have S1 := Lib.hid (H.out.keep (Keeps.alloc w (.cells #[.slice A n c, .slice B m d] 24)))
  have S2 := Lib.hid (H'.out.keep (Keeps.alloc w (.cells #[.slice A n c, .slice B m d] 24)))
  rw [← hW] at q0 q1 S1 S2
  have HB : Hid (Ext w W) := by unfold Hid; rw [hW]; exact (Ext.refl _).alloc _
  have HW := Lib.hid hW; clear hW
  go_enter Try.func40, Try.ntmps40
  go_wp2
  rw [← HW.out]
  go_loop [15] (fun i => ∃ k : Nat, k ≤ 2 ∧ i = .int .i64 k ∧ (1 ≤ k → xs.any bad3 = false) ∧ (2 ≤ k → ys.any bad3 = false)) (fun i => 2 - (intOf i).toNat)
  case atStart => exact ⟨0, by omega, rfl, by omega, by omega⟩
  case round =>
    obtain ⟨k, hk, rfl, b1, b2⟩ := hrel
    have hk3 : k = 0 ∨ k = 1 ∨ k = 2 := by omega
    clear hk
    rcases hk3 with rfl | rfl | rfl
    · clear b1 b2
      by_cases hb : xs.any bad3 = true
      · have HX := Lib.hid hb; clear hb
        go_wp2_with (go_at_call 79; with_reducible refine (ternCheck_any A n c xs W S1.out hn).mono ?_; rintro e w' ⟨rfl, rfl⟩; rw [checkM_bad HX.out])
        go_ret2; exact ⟨by rw [← HR.out, HX.out]; rfl, HB.out⟩
      · have hb : xs.any bad3 = false := by simpa using hb
        have HX := Lib.hid hb; clear hb
        go_wp2_with (go_at_call 79; with_reducible refine (ternCheck_any A n c xs W S1.out hn).mono ?_; rintro e w' ⟨rfl, rfl⟩; rw [checkM_ok HX.out])
        go_round
        case rel => exact ⟨1, by omega, rfl, fun _ => HX.out, by omega⟩
        case measure => simp [intOf]
    · have HY := Lib.hid (b1 (by omega)); clear b1 b2
      by_cases hb : ys.any bad3 = true
      · have HX := Lib.hid hb; clear hb
        go_wp2_with (go_at_call 79; with_reducible refine (ternCheck_any B m d ys W S2.out hm).mono ?_; rintro e w' ⟨rfl, rfl⟩; rw [checkM_bad HX.out])
        go_ret2; exact ⟨by rw [← HR.out, HY.out, HX.out]; rfl, HB.out⟩
      · have hb : ys.any bad3 = false := by simpa using hb
        have HX := Lib.hid hb; clear hb
        go_wp2_with (go_at_call 79; with_reducible refine (ternCheck_any B m d ys W S2.out hm).mono ?_; rintro e w' ⟨rfl, rfl⟩; rw [checkM_ok HX.out])
        go_round
        case rel => exact ⟨2, by omega, rfl, fun _ => HY.out, fun _ => HX.out⟩
        case measure => simp [intOf]
    · have HY := Lib.hid (b1 (by omega)); have HX := Lib.hid (b2 (by omega)); clear b1 b2
      by_cases hnm : n = m
      · subst hnm
        have HR2 : Hid ((leqM xs ys, (0 : Int)) = R) := by unfold Hid; rw [← HR.out, HY.out, HX.out]; simp
        clear HR
        go_wp2
        go_loopw [32] (fun i wr => ∃ (k m : Nat), k ≤ n ∧ i = .int .i64 k ∧ wr = W.drewN m ∧ leqM (xs.drop k) (ys.drop k) = leqM xs ys) (fun i _ => n - (intOf i).toNat)
        case atStart => exact ⟨0, 0, Nat.zero_le _, rfl, rfl, rfl⟩
        case round =>
          obtain ⟨k, m, hk, rfl, rfl, hM⟩ := hrel
          by_cases hlt : k < n
          · obtain ⟨b, off, x, rfl, hc, hd⟩ := S1.out.next hlt
            obtain ⟨b', off', y, rfl, hc', hd'⟩ := S2.out.next hlt
            rw [hd, hd', leqM] at hM
            have HM := Lib.hid hM; clear hM hd hd'
            by_cases h2 : x = 2
            · have g2 : (x != 2) = false := by simpa using h2
              have H2 := Lib.hid h2; clear h2
              go_wp2
              go_roundw
              case rel => exact ⟨k + 1, _, by omega, by go_num, rfl, by rw [← HM.out]; simp [H2.out]⟩
              case measure => simp [intOf]; omega
            · have g2 : (x != 2) = true := by simpa using h2
              have H2 := Lib.hid h2; clear h2
              by_cases hxy : x = y
              · have g3 : (x != y) = false := by simpa using hxy
                have H3 := Lib.hid hxy; clear hxy
                go_wp2
                go_roundw
                case rel => exact ⟨k + 1, _, by omega, by go_num, rfl, by rw [← HM.out]; simp [H3.out]⟩
                case measure => simp [intOf]; omega
              · have g3 : (x != y) = true := by simpa using hxy
                have H3 := Lib.hid hxy; clear hxy
                go_wp2
                go_ret2; exact ⟨by rw [← HR2.out, ← HM.out]; simp [H2.out, H3.out], HB.out.drewN _⟩
          · have hE : leqM [] (ys.drop k) = true := by cases ys.drop k <;> rfl
            rw [S1.out.drop_end hlt, hE] at hM
            have HM := Lib.hid hM; clear hM hE
            go_wp2
            go_ret2; exact ⟨by rw [← HR2.out, ← HM.out]; rfl, HB.out.drewN _⟩
      · have hne : ((n : Int) != (m : Int)) = true := by simp; omega
        have HN := Lib.hid hnm; clear hnm
        go_wp2
        go_ret2; exact ⟨by rw [← HR.out, HY.out, HX.out]; simp [HN.out], HB.out⟩
end Go.Proofs.Ytjagbnaacfhokaa
