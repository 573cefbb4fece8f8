/- Small functions of tick, by the program and by the reference. -/
import Derived.Test.YtjagbnaacfhokaaRc09
import Derived.Test.YtjagbnaacfhokaaRc10
import Derived.Test.YtjagbnaacfhokaaRc02
import Derived.Test.YtjagbnaacfhokaaRc05
namespace Go.Proofs.Ytjagbnaacfhokaa
set_option linter.unusedVariables false
set_option linter.unusedSimpArgs false
open Go.RowKit

theorem pick_next {v l : List Int} {k : Nat} {x : Int} (h : l[k]? = some x) : pickM v (l.take (k + 1)) = pickM v (l.take k) ++ [valI v x] := take_next (valI v) l h

set_option maxHeartbeats 1000000 in
theorem pick_any (VA : Option Addr) (vn vc : Nat) (LA : Option Addr) (ln lc : Nat) (v l : List Int) (w : World) (hv : Sl w VA vn (v.map I)) (hl : Sl w LA ln (l.map I)) (hr : inR vn l) (hn : ln ≤ 1000000) :
    Calls Try.prog 127 #[.slice VA vn vc, .slice LA ln lc] w fun e w' => ∃ r, e = .returned r ∧ w'.ownsRow w.heap.size 3 1 r ln ((pickM v l).map I) ∧ Ext w w' := by
  have HV := Lib.hid hv; have HL := Lib.hid hl; have HR := Lib.hid hr; clear hv hl hr
  go_enter Try.func127, Try.ntmps127
  go_wp2
  go_loopw [5, 10] (fun s i wr => ∃ (k : Nat), k ≤ ln ∧ i = .int .i64 k ∧ Ext w wr ∧ wr.ownsRow w.heap.size 3 1 s k ((pickM v (l.take k)).map I)) (fun _ i _ => ln - (intOf i).toNat)
  case atStart => exact ⟨0, Nat.zero_le _, rfl, Ext.refl _, World.ownsRow_nil _ _ _ _⟩
  case round =>
    obtain ⟨k, hk, rfl, hext, hown⟩ := hrel
    by_cases hlt : k < ln
    · obtain ⟨b, off, x, rfl, hc0, hx⟩ := HL.out.at_ hlt
      have hc := hext.keeps _ _ hc0
      obtain ⟨h0, h1⟩ := HR.out x (List.mem_of_getElem? hx)
      obtain ⟨j, rfl⟩ : ∃ j : Nat, x = j := ⟨x.toNat, by omega⟩
      have hj : j < vn := by omega
      obtain ⟨b', off', y, rfl, hd0, hy⟩ := HV.out.at_ hj
      have hd := hext.keeps _ _ hd0
      have hn2 := pick_next (v := v) hx
      rw [valI_at hy] at hn2
      have HN := Lib.hid hn2; have HO := Lib.hid hown
      clear hn2 hown hx hy hc0 hd0 h0 h1
      go_wp2_with (at_builtin; refine wpList_push rfl (.tmp 14) (.tmp 19) 24 3 rfl tab_int' Try.underlying24 rfl (by omega) w wr hext _ k _ rfl HO.out [I y] rfl rfl rfl (by simp [Value.oneCell']) (by unfold maxLen; omega) (by omega) ?_; intro v' w2 hown2 hx3 _)
      go_roundw
      case rel => exact ⟨k + 1, by omega, by go_num, hx3, by rw [HN.out]; simpa using hown2⟩
      case measure => simp [intOf]; omega
    · have hkn : k = ln := by omega
      subst hkn
      have ht : l.take k = l := List.take_of_length_le (by have := HL.out.len; omega)
      rw [ht] at hown
      have HO := Lib.hid hown; clear hown ht
      go_wp2
      go_ret
      exact ⟨_, rfl, HO.out, hext⟩

set_option maxHeartbeats 1000000 in
theorem picked_any (VA : Option Addr) (vn vc : Nat) (LA : Option Addr) (ln lc : Nat) (v l : List Int) (w : World) (hv : Sl w VA vn (v.map I)) (hl : Sl w LA ln (l.map I)) (hr : inR vn l) (hn : ln ≤ 1000000) :
    Calls Try.prog 96 #[.slice VA vn vc, .slice LA ln lc] w fun e w' => ∃ r, e = .returned r ∧ w'.ownsRow w.heap.size 3 1 r ln ((pickM v l).map I) ∧ Ext w w' := by
  have HV := Lib.hid hv; have HL := Lib.hid hl; have HR := Lib.hid hr; clear hv hl hr
  go_enter Try.func96, Try.ntmps96
  go_wp2
  go_loopw [5, 6] (fun s i wr => ∃ (k : Nat), k ≤ ln ∧ i = .int .i64 k ∧ Ext w wr ∧ wr.ownsRow w.heap.size 3 1 s k ((pickM v (l.take k)).map I)) (fun _ i _ => ln - (intOf i).toNat)
  case atStart => exact ⟨0, Nat.zero_le _, rfl, Ext.refl _, World.ownsRow_nil _ _ _ _⟩
  case round =>
    obtain ⟨k, hk, rfl, hext, hown⟩ := hrel
    by_cases hlt : k < ln
    · obtain ⟨b, off, x, rfl, hc0, hx⟩ := HL.out.at_ hlt
      have hc := hext.keeps _ _ hc0
      obtain ⟨h0, h1⟩ := HR.out x (List.mem_of_getElem? hx)
      obtain ⟨j, rfl⟩ : ∃ j : Nat, x = j := ⟨x.toNat, by omega⟩
      have hj : j < vn := by omega
      obtain ⟨b', off', y, rfl, hd0, hy⟩ := HV.out.at_ hj
      have hd := hext.keeps _ _ hd0
      have hn2 := pick_next (v := v) hx
      rw [valI_at hy] at hn2
      have HN := Lib.hid hn2; have HO := Lib.hid hown
      clear hn2 hown hx hy hc0 hd0 h0 h1
      go_wp2_with (at_builtin; refine wpList_push rfl (.tmp 13) (.tmp 21) 24 3 rfl tab_int' Try.underlying24 rfl (by omega) w wr hext _ k _ rfl HO.out [I y] rfl rfl rfl (by simp [Value.oneCell']) (by unfold maxLen; omega) (by omega) ?_; intro v' w2 hown2 hx3 _)
      go_roundw
      case rel => exact ⟨k + 1, by omega, by go_num, hx3, by rw [HN.out]; simpa using hown2⟩
      case measure => simp [intOf]; omega
    · have hkn : k = ln := by omega
      subst hkn
      have ht : l.take k = l := List.take_of_length_le (by have := HL.out.len; omega)
      rw [ht] at hown
      have HO := Lib.hid hown; clear hown ht
      go_wp2
      go_ret
      exact ⟨_, rfl, HO.out, hext⟩

theorem nexts_next {rs : List StoreM} {k : Nat} {x : StoreM} (h : rs[k]? = some x) : ((rs.take (k + 1)).map (·.next)).map I = ((rs.take k).map (·.next)).map I ++ [I x.next] := by
  rw [take_next (·.next) rs h, List.map_append]; rfl
section
variable (i : Int) (GA : Option Addr) (gn gc : Nat) (RA : Option Addr) (rn rc : Nat) (OA : Option Addr) (on oc : Nat) (N : NetM) (w : World)
set_option maxHeartbeats 1000000 in
theorem nexts_any (h : NetC w i GA gn gc RA rn rc OA on oc N) (hr : rn ≤ 20) :
    Calls Try.prog 109 #[netV i GA gn gc RA rn rc OA on oc] w fun e w' => ∃ v, e = .returned v ∧ w'.ownsRow w.heap.size 3 1 v rn ((nextsM N).map I) ∧ Ext w w' := by
  have H := Lib.hid h.regs; clear h
  obtain ⟨W, hW⟩ : ∃ W, W = w.alloc (.cells #[I i, .slice GA gn gc, .slice RA rn rc, .slice OA on oc] 26) := ⟨_, rfl⟩
  have hxW : Ext w W := by rw [hW]; exact (Ext.refl _).alloc _
  have HR := Lib.hid (H.out.keep hxW.keeps); have HW := Lib.hid hW; clear H hW
  go_enter Try.func109, Try.ntmps109
  go_wp2_with fail
  rw [← HW.out]
  go_loopw [3, 9] (fun s j wr => ∃ (k : Nat), k ≤ rn ∧ j = .int .i64 k ∧ Ext W wr ∧ wr.ownsRow W.heap.size 3 1 s k (((N.regs.take k).map (·.next)).map I)) (fun _ j _ => rn - (intOf j).toNat)
  case atStart => exact ⟨0, Nat.zero_le _, rfl, Ext.refl _, World.ownsRow_nil _ _ _ _⟩
  case round =>
    obtain ⟨k, hk, rfl, hext, hown⟩ := hrel
    by_cases hlt : k < rn
    · obtain ⟨b, off, r, rfl, hc0, hc1, hd, hx⟩ := HR.out.next hlt
      have hc := hext.keeps _ _ hc0; have hc' := hext.keeps _ _ hc1
      have HN := Lib.hid (nexts_next hx); have HO := Lib.hid (own_ext hown ((Ext.refl wr).alloc (.cells #[Bv r.fst, I r.next] 78)))
      clear hown hx hd hc0 hc1
      go_wp2_with (at_builtin; refine wpList_pushB rfl (.tmp 13) (.tmp 16) 24 3 rfl tab_int' Try.underlying24 rfl (by omega) W _ (hext.alloc (.cells #[Bv r.fst, I r.next] 78)) _ k _ rfl HO.out [I r.next] rfl rfl _ rfl (by simp) (by simp [Value.oneCell']) (by unfold maxLen; omega) (by omega) ?_; intro v' w2 hown2 hx3 _)
      go_roundw
      case rel => exact ⟨k + 1, by omega, by go_num, hx3, by rw [HN.out]; exact hown2⟩
      case measure => simp [intOf]; omega
    · have hkn : k = rn := by omega
      subst hkn
      have ht : N.regs.take k = N.regs := List.take_of_length_le (by have := HR.out.1; omega)
      rw [ht] at hown
      have HO := Lib.hid hown; clear hown ht
      go_wp2
      go_ret
      exact ⟨_, rfl, own_base HO.out hxW.size, hxW.trans hext⟩
set_option maxHeartbeats 1000000 in
theorem rnexts_any (h : NetC w i GA gn gc RA rn rc OA on oc N) (hr : rn ≤ 20) :
    Calls Try.prog 97 #[netV i GA gn gc RA rn rc OA on oc] w fun e w' => ∃ v, e = .returned v ∧ w'.ownsRow w.heap.size 3 1 v rn ((nextsM N).map I) ∧ Ext w w' := by
  have H := Lib.hid h.regs; clear h
  obtain ⟨W, hW⟩ : ∃ W, W = w.alloc (.cells #[I i, .slice GA gn gc, .slice RA rn rc, .slice OA on oc] 26) := ⟨_, rfl⟩
  have hxW : Ext w W := by rw [hW]; exact (Ext.refl _).alloc _
  have hbox : NetBox W w.heap.size i GA gn gc RA rn rc OA on oc := by rw [hW]; exact NetBox.new w i GA gn gc RA rn rc OA on oc _
  have HR := Lib.hid (H.out.keep hxW.keeps); have HW := Lib.hid hW; have HB := Lib.hid hbox; clear H hW hbox
  go_enter Try.func97, Try.ntmps97
  go_wp2_with fail
  rw [← HW.out]
  go_loopw [3, 4] (fun s j wr => ∃ (k : Nat), k ≤ rn ∧ j = .int .i64 k ∧ Ext W wr ∧ wr.ownsRow W.heap.size 3 1 s k (((N.regs.take k).map (·.next)).map I)) (fun _ j _ => rn - (intOf j).toNat)
  case atStart => exact ⟨0, Nat.zero_le _, rfl, Ext.refl _, World.ownsRow_nil _ _ _ _⟩
  case round =>
    obtain ⟨k, hk, rfl, hext, hown⟩ := hrel
    have hbx := (HB.out.keep hext.keeps).2.2.1
    by_cases hlt : k < rn
    · obtain ⟨b, off, r, rfl, hc0, hc1, hd, hx⟩ := HR.out.next hlt
      have hc' := hext.keeps _ _ hc1
      have HN := Lib.hid (nexts_next hx); have HO := Lib.hid hown
      clear hown hx hd hc0 hc1
      go_wp2_with (at_builtin; refine wpList_push rfl (.tmp 12) (.tmp 19) 24 3 rfl tab_int' Try.underlying24 rfl (by omega) W wr hext _ k _ rfl HO.out [I r.next] rfl rfl rfl (by simp [Value.oneCell']) (by unfold maxLen; omega) (by omega) ?_; intro v' w2 hown2 hx3 _)
      go_roundw
      case rel => exact ⟨k + 1, by omega, by go_num, hx3, by rw [HN.out]; exact hown2⟩
      case measure => simp [intOf]; omega
    · have hkn : k = rn := by omega
      subst hkn
      have ht : N.regs.take k = N.regs := List.take_of_length_le (by have := HR.out.1; omega)
      rw [ht] at hown
      have HO := Lib.hid hown; clear hown ht
      go_wp2
      go_ret
      exact ⟨_, rfl, own_base HO.out hxW.size, hxW.trans hext⟩
end

def indexZ (v : Int) : List Int → Int → Int
  | [], _ => -1
  | x :: l, k => if v = x then k else indexZ v l (k + 1)
theorem indexZ_lo (v : Int) (l : List Int) : ∀ k : Int, 0 ≤ k → decide (0 ≤ indexZ v l k) = l.contains v := by
  induction l with
  | nil => intro k _; simp [indexZ]
  | cons x l ih =>
    intro k hk
    by_cases h : v = x
    · subst h; simp [indexZ, hk]
    · simp only [indexZ, if_neg h, ih (k + 1) (by omega), List.contains_cons]
      simp [h]
theorem indexInt_any (A : Option Addr) (n c : Nat) (xs : List Int) (v : Int) (w : World) (h : Sl w A n (xs.map I)) (hn : n ≤ maxLen) :
    Calls Try.prog 136 #[.slice A n c, I v] w fun e w' => e = .returned (I (indexZ v xs 0)) ∧ w = w' := by
  unfold maxLen at hn
  have H := Lib.hid h; clear h
  go_enter Try.func136, Try.ntmps136
  go_wp2
  go_loop [8] (fun i => ∃ (k : Nat), k ≤ n ∧ i = .int .i64 k ∧ indexZ v (xs.drop k) k = indexZ v xs 0) (fun i => n - (intOf i).toNat)
  case atStart => exact ⟨0, Nat.zero_le _, rfl, rfl⟩
  case round =>
    obtain ⟨k, hk, rfl, hM⟩ := hrel
    by_cases hlt : k < n
    · obtain ⟨b, off, x, rfl, hc, hd⟩ := H.out.next hlt
      rw [hd, indexZ] at hM
      have HM := Lib.hid hM; clear hM hd
      by_cases hv : v = x
      · have hb : (v == x) = true := by simpa using hv
        have HV := Lib.hid hv; clear hv
        go_wp2
        go_ret
        exact ⟨ret_int (by rw [← HM.out, if_pos HV.out]), rfl⟩
      · have hb : (v == x) = false := by simpa using hv
        have HV := Lib.hid hv; clear hv
        go_wp2
        go_round
        case rel => exact ⟨k + 1, by omega, by go_num, by rw [← HM.out, if_neg HV.out]; simp⟩
        case measure => simp [intOf]; omega
    · rw [H.out.drop_end hlt, indexZ] at hM
      have HM := Lib.hid hM; clear hM
      go_wp2
      go_ret
      exact ⟨ret_int HM.out, rfl⟩
theorem containsInt_any (A : Option Addr) (n c : Nat) (xs : List Int) (v : Int) (w : World) (h : Sl w A n (xs.map I)) (hn : n ≤ maxLen) :
    Calls Try.prog 126 #[.slice A n c, I v] w fun e w' => e = .returned (.bool (xs.contains v)) ∧ w = w' := by
  have H := Lib.hid h; clear h
  have HM := Lib.hid (indexZ_lo v xs 0 (Int.le_refl _))
  go_enter Try.func126, Try.ntmps126
  go_wp2_with fail
  refine (indexInt_any A n c xs v w H.out hn).mono ?_; rintro e w' ⟨rfl, rfl⟩
  go_wp2
  go_ret
  exact ⟨ret_bool HM.out, rfl⟩

theorem bits_mix {x : Int} {n k : Nat} (h : k < n) : (mixV (bitsM x n) k n).set k (x / 2 ^ k % 2) = mixV (bitsM x n) (k + 1) n := mixV_set h (bits_at x n k h)
set_option maxHeartbeats 2000000 in
theorem bits_any (x : Int) (n : Nat) (w : World) (hx0 : 0 ≤ x) (hx1 : x < 8) (hn : n ≤ 3) :
    Calls Try.prog 99 #[I x, I n] w fun e w' => ∃ v, e = .returned v ∧ w'.ownsRow w.heap.size 3 1 v n ((bitsM x n).map I) ∧ Ext w w' := by
  have hmk := fun Q => run_make1 (P := Try.prog) 24 3 tab_int' Try.underlying24 rfl n (by omega) (by omega) Q
  have hown0 : (w.alloc (.cells (zeros (.int .i64 0) n) 3)).ownsRow w.heap.size 3 1 (.slice (some ⟨w.heap.size, 0, none⟩) n n) n ((mixV (bitsM x n) 0 n).map I) := by
    have := own_made w 3 (.int .i64 0) n w.heap.size (Nat.le_refl _) (by unfold maxLen; omega)
    simpa [mixV] using this
  have HO0 := Lib.hid hown0; clear hown0
  go_enter Try.func99, Try.ntmps99
  go_wp2_with fail
  clear hmk
  go_loopw [11] (fun j wr => ∃ k : Nat, k ≤ n ∧ j = .int .i64 k ∧ Ext w wr ∧ wr.ownsRow w.heap.size 3 1 (.slice (some ⟨w.heap.size, 0, none⟩) n n) n ((mixV (bitsM x n) k n).map I)) (fun j _ => n - (intOf j).toNat)
  case atStart => exact ⟨0, Nat.zero_le _, rfl, (Ext.refl _).alloc _, HO0.out⟩
  case round =>
    obtain ⟨k, hk, rfl, hext, hv⟩ := hrel
    by_cases hlt : k < n
    · obtain ⟨⟨u, hu, hc⟩, hf, -⟩ := own_at hv hlt
      have hsv := (hv.stored k (I (x / 2 ^ k % 2))).1
      rw [← List.map_set, bits_mix hlt] at hsv
      have hxs := hext.setCell (p := ⟨w.heap.size, k, none⟩) (Nat.le_refl _) (I (x / 2 ^ k % 2))
      have HV := Lib.hid hsv; have HXS := Lib.hid hxs
      clear hv hext hsv hxs hu
      have h1 : x = 0 ∨ x = 1 ∨ x = 2 ∨ x = 3 ∨ x = 4 ∨ x = 5 ∨ x = 6 ∨ x = 7 := by omega
      have h2 : k = 0 ∨ k = 1 ∨ k = 2 := by omega
      clear hx0 hx1 hk
      rcases h1 with rfl | rfl | rfl | rfl | rfl | rfl | rfl | rfl <;> rcases h2 with rfl | rfl | rfl
      all_goals
        go_wp2
        go_roundw
        case rel => exact ⟨_, hlt, rfl, HXS.out, HV.out⟩
        case measure => simp [intOf]; try omega
    · have hkn : k = n := by omega
      subst hkn
      rw [mixV_end (bits_len x k)] at hv
      have HV := Lib.hid hv; clear hv
      go_wp2
      go_ret
      exact ⟨_, rfl, HV.out, hext⟩

/-! the bounds of the instants -/
set_option maxRecDepth 100000 in
theorem times1_any (b : Nat) (n : Nat) (x : Int) (w : World) (hc : w.cell? ⟨b, 0, none⟩ = some (I n)) (hn : n ≤ 3) :
    Calls Try.prog 128 #[I x, .pointer (some ⟨b, 0, none⟩)] w fun e w' => e = .returned (.bool (badTime n x)) ∧ w = w' := by
  have h : n = 0 ∨ n = 1 ∨ n = 2 ∨ n = 3 := by omega
  rcases h with rfl | rfl | rfl | rfl
  all_goals
    go_enter Try.func128, Try.ntmps128
    go_wp2
    all_goals go_ret
    all_goals exact ⟨ret_bool (by simp [badTime]; try omega), rfl⟩
set_option maxRecDepth 100000 in
theorem enter_times1 : ∀ args W, (callFunc 128 args).run Try.prog W = .ok (.enter 128 args) W := by
  intro args W
  go_simp
theorem asks_times1 (b : Nat) (n : Nat) (w : World) (hc : w.cell? ⟨b, 0, none⟩ = some (I n)) (hn : n ≤ 3) : Asks Try.prog 128 #[.pointer (some ⟨b, 0, none⟩)] w (badTime n) := ⟨enter_times1, fun x => times1_any b n x w hc hn⟩
set_option maxHeartbeats 1000000 in
theorem times_any (A : Option Addr) (n c : Nat) (l : List Int) (k : Nat) (w : World) (h : Sl w A n (l.map I)) (hn : n ≤ maxLen) (hk : k ≤ 3) :
    Calls Try.prog 98 #[.slice A n c, I k] w fun e w' => e = .returned (I (timesM l k)) ∧ Ext w w' := by
  have hln := h.len
  generalize hM : timesM l k = M
  unfold timesM at hM
  rw [hln] at hM
  obtain ⟨W, hW⟩ : ∃ W, W = w.alloc (.cells #[I k] 3) := ⟨_, rfl⟩
  have hxW : Ext w W := by rw [hW]; exact (Ext.refl _).alloc _
  have hc : W.cell? ⟨w.heap.size, 0, none⟩ = some (I k) := by rw [hW, World.cell?_alloc_new]; rfl
  have HS := Lib.hid (h.keep hxW.keeps); have HW := Lib.hid hW; have HC := Lib.hid hc
  have HN := Lib.hid hn
  unfold maxLen at hn
  clear h hW hc hln
  by_cases h1 : 60 < n
  · rw [if_pos h1] at hM
    have HM := Lib.hid hM; clear hM
    go_enter Try.func98, Try.ntmps98
    go_wp2
    go_ret
    rw [← HW.out]
    exact ⟨ret_int HM.out, hxW⟩
  · rw [if_neg h1] at hM
    cases hb : l.any (badTime k)
    all_goals
      rw [hb] at hM
      have HM := Lib.hid hM; have HB := Lib.hid hb; clear hM hb
      go_enter Try.func98, Try.ntmps98
      go_wp2_with fail
      rw [← HW.out]
      refine (containsFunc_any A n c l _ _ (badTime k) W HS.out HN.out (asks_times1 w.heap.size k W HC.out hk)).mono ?_; rintro e w' ⟨rfl, rfl⟩; rw [HB.out]
      go_wp2
      go_ret
      exact ⟨ret_int (by rw [← HM.out]; rfl), hxW⟩
end Go.Proofs.Ytjagbnaacfhokaa
/- A row of rows that a call makes, one row behind the other; SameRows. -/
namespace Go.Proofs.Ytjagbnaacfhokaa
set_option linter.unusedVariables false
set_option linter.unusedSimpArgs false
open Go.RowKit

theorem own_types {w : World} {base base' : Nat} {e e' : TypeId} {size size' n m : Nat} {v v' : Value} {xs ys : List Value} (h : w.ownsRow base e size v n xs) (h' : w.ownsRow base' e' size' v' m ys) (hne : e ≠ e') : v.ownBlock = none ∨ v.ownBlock ≠ v'.ownBlock := by
  rcases h.2 with ⟨rfl, _⟩ | ⟨g, cap, cur, rfl, _, hg, _⟩
  · exact .inl rfl
  · right
    intro e1
    rcases h'.2 with ⟨rfl, _⟩ | ⟨g', cap', cur', rfl, _, hg', _⟩
    · cases e1
    · have e2 : g = g' := Option.some.inj e1
      subst e2
      rw [hg] at hg'
      injection hg' with hg'
      injection hg' with _ h3 _
      exact hne h3
/-- A row of rows of numbers, all of the call's own. -/
structure OwnRows (E T : TypeId) (w : World) (base : Nat) (s : Value) (rows : List (List Int)) (vs : List Value) : Prop where
  row : w.ownsRow base E 1 s rows.length vs
  own : ∀ (k : Nat) v r, vs[k]? = some v → rows[k]? = some r → w.ownsRow base T 1 v r.length (r.map I)
section
variable {E T : TypeId} {w w' : World} {base : Nat} {s : Value} {rows : List (List Int)} {vs : List Value}
theorem OwnRows.vl (h : OwnRows E T w base s rows vs) : vs.length = rows.length := by have := h.row.1; omega
theorem OwnRows.nil (E T : TypeId) (w : World) (base : Nat) : OwnRows E T w base (.slice none 0 0) [] [] := ⟨World.ownsRow_nil _ _ _ _, fun k v r h => by simp at h⟩
theorem OwnRows.ext (h : OwnRows E T w base s rows vs) (hx : Ext w w') : OwnRows E T w' base s rows vs := ⟨own_ext h.row hx, fun k v r hv hr => own_ext (h.own k v r hv hr) hx⟩
theorem OwnRows.base_le {base' : Nat} (h : OwnRows E T w base s rows vs) (hb : base' ≤ base) : OwnRows E T w base' s rows vs := ⟨own_base h.row hb, fun k v r hv hr => own_base (h.own k v r hv hr) hb⟩
theorem OwnRows.push (h : OwnRows E T w base s rows vs) (hne : T ≠ E) {s' v : Value} {r : List Int} (hv : w.ownsRow base T 1 v r.length (r.map I)) (hown : w'.ownsRow base E 1 s' (rows.length + 1) (vs ++ [v])) (hg : w.grownBy w' s.ownBlock) :
    OwnRows E T w' base s' (rows ++ [r]) (vs ++ [v]) := by
  refine ⟨by simpa using hown, fun k y z hy hz => ?_⟩
  have hvl := h.vl
  by_cases hk : k < vs.length
  · rw [List.getElem?_append_left hk] at hy
    rw [List.getElem?_append_left (by omega)] at hz
    have h1 := h.own k y z hy hz
    exact h1.kept hg (own_types h1 h.row hne)
  · rw [List.getElem?_append_right (by omega)] at hy hz
    rw [← hvl] at hz
    cases hq : k - vs.length with
    | zero =>
      rw [hq] at hy hz
      simp at hy hz
      subst hy; subst hz
      exact hv.kept hg (own_types hv h.row hne)
    | succ q => rw [hq] at hy; simp at hy
end
/-- A slice of slices of numbers that is read. -/
def SlRows (w : World) (A : Option Addr) (n : Nat) (rows : List (List Int)) : Prop :=
  rows.length = n ∧ ∀ (k : Nat) r, rows[k]? = some r → ∃ b off A' c, A = some ⟨b, off, none⟩ ∧ w.cell? ⟨b, off + k, none⟩ = some (.slice A' r.length c) ∧ Sl w A' r.length (r.map I) ∧ r.length ≤ c ∧ c ≤ maxLen
theorem SlRows.keep {w w' : World} {A : Option Addr} {n : Nat} {rows : List (List Int)} (h : SlRows w A n rows) (hk : Keeps w w') : SlRows w' A n rows :=
  ⟨h.1, fun k r hr => let ⟨b, off, A', c, e, hc, hs, h1, h2⟩ := h.2 k r hr; ⟨b, off, A', c, e, hk _ _ hc, hs.keep hk, h1, h2⟩⟩
theorem SlRows.nil (w : World) (A : Option Addr) : SlRows w A 0 [] := ⟨rfl, fun k r h => by simp at h⟩
theorem OwnRows.slice {E T : TypeId} {w : World} {base : Nat} {s : Value} {rows : List (List Int)} {vs : List Value} (h : OwnRows E T w base s rows vs) : ∃ A c, s = .slice A rows.length c ∧ rows.length ≤ c ∧ c ≤ maxLen ∧ SlRows w A rows.length rows := by
  obtain ⟨A, c, rfl, h1, h2, hc⟩ := own_slice h.row
  refine ⟨A, c, rfl, h1, h2, rfl, fun k r hr => ?_⟩
  have hk : k < vs.length := by have := h.vl; have := (List.getElem?_eq_some_iff.1 hr).1; omega
  obtain ⟨b, off, e, hcell⟩ := hc k vs[k] (List.getElem?_eq_getElem hk)
  obtain ⟨A', c', e', g1, g2, hs⟩ := own_sl (h.own k vs[k] r (List.getElem?_eq_getElem hk) hr)
  exact ⟨b, off, A', c', e, by rw [hcell, e'], hs, g1, g2⟩
end Go.Proofs.Ytjagbnaacfhokaa
/- The rule of Flow for regions in which an operation of the rest waits for the front by way of others. -/
namespace Go.Proofs.Ytjagbnaacfhokaa
set_option linter.unusedVariables false
set_option linter.unusedSimpArgs false
open Go.RowKit

/-- What is listed has all listed for which it waits. -/
def Closed (ops : Array Oper) (listed : Array Bool) : Prop := ∀ (i : Nat) (o : Oper), listed.getD i false = true → ops[i]? = some o → ∀ e ∈ o.after.toList, Region.binds .any e = true → listed.getD e.on false = true
theorem Closed.set {ops : Array Oper} {listed : Array Bool} (h : Closed ops listed) (hs : listed.size = ops.size) {i : Nat} (hi : i ∈ Region.ready .any ops listed) : Closed ops (listed.setIfInBounds i true) := by
  obtain ⟨o0, ho0, hd0⟩ := ready_of hi
  have up : ∀ k : Nat, listed.getD k false = true → (listed.setIfInBounds i true).getD k false = true := fun k hk => by
    by_cases e : k = i
    · subst e
      have hlt : k < listed.size := by rw [hs]; exact (Array.getElem?_eq_some_iff.1 ho0).1
      rw [Array.getD_eq_getD_getElem?, Array.getElem?_setIfInBounds_self_of_lt hlt]; rfl
    · rw [Array.getD_eq_getD_getElem?, Array.getElem?_setIfInBounds_ne (fun q => e q.symm), ← Array.getD_eq_getD_getElem?]; exact hk
  intro k o hk ho e he hb
  by_cases q : k = i
  · subst q
    rw [ho0] at ho; injection ho with ho; subst ho
    exact up _ (hd0 e he hb)
  · rw [Array.getD_eq_getD_getElem?, Array.getElem?_setIfInBounds_ne (fun e => q e.symm), ← Array.getD_eq_getD_getElem?] at hk
    exact up _ (h k o hk ho e he hb)
/-- An operation waits for j, by itself or by others. -/
def needsOp (ops : Array Oper) : Nat → Nat → Oper → Bool
  | 0, j, o => waitsFor o j
  | f + 1, j, o => waitsFor o j || o.after.toList.any fun e => Region.binds .any e && match ops[e.on]? with | some o' => needsOp ops f j o' | none => false
theorem needsOp_spec {ops : Array Oper} {listed : Array Bool} (hc : Closed ops listed) {j : Nat} : ∀ (f : Nat) (o : Oper), needsOp ops f j o = true → (∀ e ∈ o.after.toList, Region.binds .any e = true → listed.getD e.on false = true) → listed.getD j false = true
  | 0, o, h, hd => waitsFor_spec h hd
  | f + 1, o, h, hd => by
    unfold needsOp at h
    rw [Bool.or_eq_true] at h
    rcases h with h | h
    · exact waitsFor_spec h hd
    · obtain ⟨e, he, h2⟩ := List.any_eq_true.1 h
      rw [Bool.and_eq_true] at h2
      obtain ⟨hb, h2⟩ := h2
      have hl := hd e he hb
      cases ho : ops[e.on]? with
      | none => rw [ho] at h2; cases h2
      | some o' =>
        rw [ho] at h2
        exact needsOp_spec hc f o' h2 (hc e.on o' hl ho)
def sufOK4 (ops : Array Oper) (m : Nat) : Bool := (List.range ops.size).all fun i => decide (i < m) || match ops[i]? with | some o => (List.range m).all (fun j => needsOp ops 40 j o) | none => true
theorem wpAny_inv_pre4 {P : Program} {ops : Array Oper} {Q : Exit → Act → World → Prop} {m n : Nat} (hsz : ops.size = m + n) (hsuf : sufOK4 ops m = true) (I : Array Bool → Act → World → Prop) (hcl : ∀ listed a w, I listed a w → Closed ops listed)
    (step : ∀ listed a w i, listed.size = ops.size → I listed a w → i < m → i ∈ Region.ready .any ops listed → wpOp P ops Q i (I (listed.setIfInBounds i true)) a w)
    (ready : ∀ listed a w, listed.size = ops.size → I listed a w → Region.ready .any ops listed = [] → ∀ j : Nat, j < m → listed.getD j false = true)
    (rest : ∀ a w, I (preL m n) a w → wpAny P .any ops Q n (preL m n) a w) :
    ∀ (k : Nat) (listed : Array Bool) (a : Act) (w : World), listed.size = ops.size → listed.toList.count false = n + k → (∀ j : Nat, m ≤ j → listed.getD j false = false) → I listed a w → wpAny P .any ops Q (n + k) listed a w
  | 0, listed, a, w, hs, hc, h2, hI => by
    have := listed_pre (m := m) (n := n) (by omega) (count_true_pre (m := m) (n := n) (by omega) (by omega) h2) h2
    subst this
    exact rest a w hI
  | k + 1, listed, a, w, hs, hc, h2, hI => by
    have hnot : ¬ ∀ j : Nat, j < m → listed.getD j false = true := by
      intro h
      have e := listed_pre (m := m) (n := n) (by omega) h h2
      rw [e] at hc
      simp [preL, List.count_append, List.count_replicate] at hc
    show wpAny P .any ops Q ((n + k) + 1) listed a w
    refine ⟨fun hr => absurd (ready listed a w hs hI hr) hnot, fun i hi => ?_⟩
    have hi2 := hi
    have him : i < m := by
      rcases Nat.lt_or_ge i m with q | q
      · exact q
      · exfalso; apply hnot
        obtain ⟨o, ho, hdep⟩ := ready_of hi
        have h3 := List.all_eq_true.1 hsuf i (List.mem_range.2 (Array.getElem?_eq_some_iff.1 ho).1)
        rw [ho] at h3
        simp only [Bool.or_eq_true, decide_eq_true_eq] at h3
        rcases h3 with h3 | h3
        · omega
        · intro j hj
          exact needsOp_spec (hcl listed a w hI) _ o (List.all_eq_true.1 h3 j (List.mem_range.2 hj)) hdep
    refine wpOp_mono (fun a' w' h => wpAny_inv_pre4 hsz hsuf I hcl step ready rest k _ a' w' (by simpa using hs) ?_ ?_ h) (step listed a w i hs hI him hi)
    · have hm : i < ops.size ∧ listed.getD i true = false := by
        unfold Region.ready at hi2
        obtain ⟨g1, g2⟩ := List.mem_filter.1 hi2
        refine ⟨List.mem_range.1 g1, ?_⟩
        simp only [Bool.and_eq_true, Bool.not_eq_true'] at g2
        exact g2.1
      obtain ⟨g1, g2⟩ := hm
      have hlt : i < listed.size := by omega
      have hx : listed.toList[i]'(by simpa using hlt) = false := by simpa [Array.getD, hlt] using g2
      have := List.count_set (a := true) (b := false) (l := listed.toList) (i := i) (by simpa using hlt)
      simp only [Array.toList_setIfInBounds]
      have hpos : 0 < listed.toList.count false := List.count_pos_iff.2 (by rw [← hx]; exact List.getElem_mem _)
      rw [this, hx]
      have e1 : (if (false == false) = true then 1 else 0) = 1 := rfl
      have e2 : (if (true == false) = true then 1 else 0) = 0 := rfl
      rw [e1, e2]; omega
    · intro j hj
      rw [getD_set_ne false (by omega)]; exact h2 j hj
/-- THE RULE, where an operation behind the first m waits for all of these, if only by others. The first m operations in whatever order, each by its own fact; then the rest, from a state that is written out. -/
theorem wp_flow4 {P : Program} {l : List Oper} {Q : Exit → Act → World → Prop} {id : Nat} {a0 : Act} {W0 : World} (m n : Nat) (Fs : List Fact) (hm : P.follows .mixedOrders = true) (hln : l.length = m + n) (hfl : Fs.length = m)
    (hok : flowOK (l.take m).toArray a0.tmps.size = true) (hsuf : sufOK4 l.toArray m = true)
    (mono : factsMono Fs) (each : AllFrom (StepOK3 P l.toArray m Q W0 a0 (facts Fs)) 0 (l.take m))
    (rest : ∀ w, Ext W0 w → ForFacts Fs w (fun vs => wpAny P .any l.toArray Q n (preL m n) (putAll a0 (l.take m) vs) w)) : (Code.region id l.toArray true).wp P Q a0 W0 := by
  have hsz : l.toArray.size = m + n := by simpa using hln
  have hlt : (l.take m).length = m := by simp; omega
  have hpo : ∀ i o, i < m → l.toArray[i]? = some o → (l.take m).toArray[i]? = some o := fun i o hi ho => by
    rw [List.getElem?_toArray, List.getElem?_take_of_lt hi]; simpa using ho
  have hdep : ∀ i o e, i < m → l.toArray[i]? = some o → e ∈ o.after.toList → Region.binds .any e = true → e.on < i := fun i o e hi ho he hbd => by
    obtain ⟨d, -, -, -, h4⟩ := flow_dst hok (hpo i o hi ho)
    exact h4 e he hbd
  refine wp_region_any hm ?_
  have key := wpAny_inv_pre4 (P := P) (Q := Q) hsz hsuf (fun listed a w => (listed.size = m + n ∧ Closed l.toArray listed) ∧ Flow W0 a0 (l.take m).toArray (facts Fs) (listed.extract 0 m) a w) (fun listed a w h => h.1.2) ?_ ?_ ?_ m (Array.replicate l.toArray.size false) a0 { W0 with drawn := W0.drawn + 1 } (by simp) ?_ ?_ ?_
  · rw [Nat.add_comm] at key; rw [← hsz] at key; exact key
  · rintro listed a w i hs ⟨⟨hI0, hC⟩, hI⟩ him hi
    obtain ⟨o, ho, hd⟩ := ready_of hi
    have ho' := hpo i o him ho
    have hl : (l.take m)[i]? = some o := by simpa using ho'
    have hst := each.at_ i o hl
    rw [Nat.zero_add] at hst
    have hext : ∀ j : Nat, j < m → (listed.extract 0 m).getD j false = listed.getD j false := fun j hj => by
      rw [Array.getD_eq_getD_getElem?, Array.getD_eq_getD_getElem?, Array.getElem?_extract, if_pos (by omega), Nat.zero_add]
    have hset : (listed.setIfInBounds i true).extract 0 m = (listed.extract 0 m).setIfInBounds i true := by
      refine Array.ext_getElem? fun j => ?_
      rw [Array.getElem?_extract]
      by_cases hj : j < m
      · rw [if_pos (by simp; omega), Nat.zero_add]
        by_cases e : i = j
        · subst e
          rw [Array.getElem?_setIfInBounds_self_of_lt (by omega), Array.getElem?_setIfInBounds_self_of_lt (by simp; omega)]
        · rw [Array.getElem?_setIfInBounds_ne e, Array.getElem?_setIfInBounds_ne e, Array.getElem?_extract, if_pos (by omega), Nat.zero_add]
      · rw [if_neg (by omega), Array.getElem?_eq_none (by simp; omega)]
    rcases hst a w hI.ext (fun i' d hw hd' => by
        obtain ⟨o', h1, h2⟩ := dstIs_spec hd'
        have hi' : i' < i := by
          obtain ⟨e, he, h2⟩ := Array.any_eq_true'.1 hw
          simp only [Bool.and_eq_true, beq_iff_eq] at h2
          rw [← h2.1]; exact hdep i o e him ho (by simpa using he) h2.2
        refine hI.slot i' o' d ?_ (hpo i' o' (by omega) h1) h2
        rw [hext i' (by omega)]; exact waitsFor_spec hw hd) (fun s h => hI.base s (freeSlot_spec h)) with ⟨h1, h2⟩ | ⟨h1, h2⟩
    · refine wpOp_step' ho h1 (h2 _ fun v w' hv hx => ⟨⟨by simpa using hI0, hC.set hs hi⟩, ?_⟩)
      rw [hset]
      exact hI.put hok (facts_mono mono) (by simp; omega) ho' hv hx
    · refine wpOp_skip' ho h1 ⟨⟨by simpa using hI0, hC.set hs hi⟩, ?_⟩
      rw [hset]
      exact hI.put hok (facts_mono mono) (by simp; omega) ho' h2 (Ext.refl _)
  · rintro listed a w hs ⟨⟨hI0, -⟩, hI⟩ hr
    have : ∀ (k j : Nat), j < k → j < m → listed.getD j false = true := by
      intro k
      induction k with
      | zero => intro j h; omega
      | succ k ih =>
        intro j h1 h2
        by_cases hl : listed.getD j false = true
        · exact hl
        · exfalso
          have hj : l.toArray[j]? = some l.toArray[j] := Array.getElem?_eq_getElem (by omega)
          have hmem : j ∈ Region.ready .any l.toArray listed := by
            unfold Region.ready
            refine List.mem_filter.2 ⟨List.mem_range.2 (by omega), ?_⟩
            rw [hj]
            simp only [Bool.and_eq_true, Option.map_some, Option.getD_some]
            refine ⟨?_, Array.all_eq_true'.2 fun e he => ?_⟩
            · have h2' : j < listed.size := by omega
              simp only [Array.getD, h2', dif_pos] at hl ⊢
              simpa using hl
            · cases hbd : Region.binds .any e with
              | false => rfl
              | true =>
                have he' := hdep j _ e h2 hj (by simpa using he) hbd
                rw [ih e.on (by omega) (by omega)]; rfl
          rw [hr] at hmem; cases hmem
    exact fun j hj => this (j + 1) j (Nat.lt_succ_self j) hj
  · rintro a w ⟨-, hI⟩
    have hx := rest w hI.ext
    obtain ⟨vs, g1, g2, g3⟩ := forFacts_get (a := a) (os := l.take m) (by rw [hfl, hlt]) hx (fun j o hj => by
      obtain ⟨d, h1, h2, -, -⟩ := flow_dst hok (by simpa using hj)
      have hjm : j < m := by have := (List.getElem?_eq_some_iff.1 hj).1; omega
      obtain ⟨v, k1, k2⟩ := hI.slot j o d (by
        rw [Array.getD_eq_getD_getElem?, Array.getElem?_extract]
        rw [if_pos (by simp [preL]; omega)]
        simp [preL, List.getElem?_append, hjm]) (by simpa using hj) h1
      exact ⟨d, v, h1, k1, k2⟩)
    have ha : a = putAll a0 (l.take m) vs := eq_putAll g1 hI.size hI.defers (fun s hs => hI.base s (fun j o ho => hs o (by
        have : (l.take m)[j]? = some o := by simpa using ho
        exact List.mem_of_getElem? this))) (fun j o d hj hd => by
      obtain ⟨d', h1, h2, -, -⟩ := flow_dst hok (j := j) (by simpa using hj)
      rw [hd] at h1; injection h1 with h1; subst h1
      exact ⟨h2, g3 j o d hj hd⟩)
    rw [ha]; exact g2
  · rw [Array.toList_replicate, List.count_replicate]; simp; omega
  · intro j hj
    rw [Array.getD_eq_getD_getElem?, Array.getElem?_replicate]
    split <;> rfl
  · exact ⟨⟨by simpa using hsz, fun i o h => by
      rw [Array.getD_eq_getD_getElem?, Array.getElem?_replicate] at h
      split at h <;> cases h⟩, ⟨(Ext.refl W0).drew, rfl, rfl, fun s _ => rfl, fun j o d h _ _ => by
      rw [Array.getD_eq_getD_getElem?, Array.getElem?_extract] at h
      split at h
      · rw [Array.getElem?_replicate] at h; split at h <;> cases h
      · cases h⟩⟩
end Go.Proofs.Ytjagbnaacfhokaa
