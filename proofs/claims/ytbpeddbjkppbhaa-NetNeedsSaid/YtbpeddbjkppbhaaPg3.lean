/- prog.Waits. -/
import Derived.Test.YtbpeddbjkppbhaaPg2
namespace Go.Proofs.Ytbpeddbjkppbhaa
set_option linter.unusedVariables false
set_option linter.unusedSimpArgs false
open Go.RowKit

theorem tab_bool : (Try.prog.info? 4).map (fun i => (i.zero, i.size, i.bytes)) = some (some (.bool false), 1, 1) := by kernel_rfl

set_option maxHeartbeats 1000000 in
theorem waits_ok (A : Option Addr) (n c : Nat) (p : List PNode) (w : World) (h : SlN w A n p) (hn : n ≤ maxLen) (h0 : checkP p = 0) :
    Calls Try.prog 40 #[.slice A n c] w fun e w' => ∃ v, e = .returned (Pr v (I 0)) ∧ w'.ownsRow w.heap.size 4 1 v n ((waitsP p).map Bv) ∧ Ext w w' := by
  have hn14 : n ≤ 14 := by have := (checkP_ok h0).1; rw [h.1] at this; exact this
  have hmk := fun W => run_make1 (P := Try.prog) 26 4 tab_bool Try.underlying26 rfl n (by omega) (by omega) W
  have H := Lib.hid h; clear h
  have HQ := Lib.hid h0; clear h0
  go_enter Try.func40, Try.ntmps40
  go_wp2_with fail
  refine (progCheck_any _ n c p w H.out hn).mono ?_; rintro e w1 ⟨rfl, x1⟩; rw [HQ.out]
  go_wp2
  go_loopw [6, 7, 18] (fun _ _ i wr => ∃ (k : Nat) (zs : List Bool), k ≤ n ∧ i = .int .i64 k ∧ Ext w wr ∧ w1.heap.size < wr.heap.size ∧ wr.ownsRow w.heap.size 4 1 (.slice (some ⟨w1.heap.size, 0, none⟩) n n) n (zs.map Bv) ∧ zs.length = n ∧ zs.take k ++ waitsP (p.drop k) = waitsP p) (fun _ _ i _ => n - (intOf i).toNat)
  case atStart => exact ⟨0, List.replicate n false, Nat.zero_le _, rfl, x1.alloc _, by simp, by have := own_made w1 4 (.bool false) n w.heap.size x1.size hn; simpa using this, by simp, by simp⟩
  case round =>
    obtain ⟨k, zs, hk, rfl, hext, hsz, hown, hzl, hM⟩ := hrel
    by_cases hlt : k < n
    · obtain ⟨b, off, x, rfl, hc0, hc0', hd, hx⟩ := H.out.next hlt
      have hc := hext.keeps _ _ hc0
      have hc' := hext.keeps _ _ hc0'
      obtain ⟨⟨u, hu, hcu⟩, hfz, hbg⟩ := own_at hown hlt
      have hbn : b ≠ w1.heap.size := by
        have h1 := lt_of_cell hc0; have h2 := x1.size; simp at h1; omega
      rw [hd] at hM
      have HM := Lib.hid hM
      have HO := Lib.hid hown
      have HZ := Lib.hid hzl
      have HB := Lib.hid hbn
      clear hM hd hx hc0 hc0' hown hu hzl hbn
      have hcu2 : ∀ o, (wr.alloc o).cell? ⟨w1.heap.size, k, none⟩ = some u := fun o => (World.cell?_alloc_lt wr o ⟨w1.heap.size, k, none⟩ hsz).trans hcu
      have hfz2 : ∀ o, (wr.alloc o).frozen? ⟨w1.heap.size, k, none⟩ = false := fun o => by
        have := (Below.alloc (Below.refl wr.heap.size wr) (Nat.le_refl _) o).frozen (p := ⟨w1.heap.size, k, none⟩) hsz
        rw [this]; exact hfz
      clear hcu hfz
      go_wp2_with (go_at_call 114; with_reducible refine (wait_any _ _).mono ?_; rintro e w' ⟨rfl, rfl⟩)
      go_roundw
      case rel =>
        refine ⟨k + 1, zs.set k (waitK x.kind), by omega, by go_num, (hext.setCell hbg _).alloc _, by simpa [World.setCell] using Nat.lt_succ_of_lt hsz, ?_, by simp [HZ.out], ?_⟩
        · have := ((HO.out.stored k (.bool (waitK x.kind))).1).alloc (.cells #[.int .i64 x.kind, .int .i64 x.sig] 120)
          simpa [List.map_set] using this
        · rw [take_set_succ _ _ _ (by rw [HZ.out]; exact hlt), ← HM.out]; simp [waitsP]
      case measure => simp [intOf]; omega
    · rw [H.out.drop_end hlt] at hM
      have hkn : k = n := by omega
      subst hkn
      have hz : zs = waitsP p := by rw [← hM]; simp [waitsP]; rw [List.take_of_length_le (by omega)]
      subst hz
      have HO := Lib.hid hown
      clear hM hown
      go_wp2
      go_ret2
      exact ⟨_, rfl, HO.out, hext⟩
end Go.Proofs.Ytbpeddbjkppbhaa
