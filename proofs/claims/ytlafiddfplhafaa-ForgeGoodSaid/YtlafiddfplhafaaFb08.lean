/- net.First, net.Begin, R.BeginOf, net.Nexts, R.nexts walked. -/
import Derived.Test.YtlafiddfplhafaaFb05
import Derived.Test.YtlafiddfplhafaaFb07
import Derived.Test.YtlafiddfplhafaaFb01
namespace Go.Proofs.Ytlafiddfplhafaa
set_option linter.unusedVariables false
set_option linter.unusedSimpArgs false
set_option linter.unusedVariables false
set_option linter.unusedSimpArgs false
open Go.RowKit
set_option maxHeartbeats 1000000 in
theorem first_any (i : Int) (GA : Option Addr) (gn gc : Nat) (RA : Option Addr) (rn rc : Nat) (OA : Option Addr) (on oc : Nat) (N : NetM) (w : World)
    (h : NetC w i GA gn gc RA rn rc OA on oc N) (hr : rn ≤ 20) :
    Calls Try.prog 43 #[netV i GA gn gc RA rn rc OA on oc] w fun e w' => ∃ v, e = .returned v ∧ w'.ownsRow w.heap.size 3 1 v rn ((firstM N).map I) ∧ Ext w w' := by
  have H := Lib.hid h.regs; clear h
  go_enter Try.func43, Try.ntmps43
  go_wp2
  go_loopw [3, 10] (fun v j wr => ∃ (k : Nat) (zs : List Int), k ≤ rn ∧ j = .int .i64 k ∧ Ext w wr ∧ wr.ownsRow w.heap.size 3 1 v k (zs.map I) ∧ zs ++ firstM { N with regs := N.regs.drop k } = firstM N) (fun _ j _ => rn - (intOf j).toNat)
  case atStart => exact ⟨0, [], Nat.zero_le _, rfl, (Ext.refl _).alloc _, World.ownsRow_nil _ _ _ _, rfl⟩
  case round =>
    obtain ⟨k, zs, hk, rfl, hext, hown, hM⟩ := hrel
    by_cases hlt : k < rn
    · obtain ⟨b, off, r, rfl, g0, g1, hd, -⟩ := H.out.next hlt
      have c0 := hext.keeps _ _ g0; have c1 := hext.keeps _ _ g1
      simp only [firstM, hd, List.map_cons] at hM
      have HM := Lib.hid hM
      have HO2 := Lib.hid (own_ext hown ((Ext.refl _).alloc (.cells #[Bv r.fst, I r.next] 79)))
      clear hM hd g0 g1 hown
      obtain ⟨rb, rx⟩ := r
      cases rb
      · go_wp2_with (at_builtin; refine wpList_pushB rfl (.tmp 16) (.tmp 18) 23 3 rfl tab_int' Try.underlying23 rfl (by omega) w _ (hext.alloc (.cells #[Bv false, I rx] 79)) _ k _ rfl HO2.out [I 0] rfl rfl _ rfl (by simp) (by simp [Value.oneCell']) (by unfold maxLen; omega) (by omega) ?_; intro v' w2 hown2 hx3 _)
        go_roundw
        case rel => exact ⟨k + 1, zs ++ [0], by omega, by go_num, hx3, by simpa using hown2, by rw [show firstM N = _ from HM.out.symm]; simp [firstM]⟩
        case measure => simp [intOf]; omega
      · go_wp2_with (at_builtin; refine wpList_pushB rfl (.tmp 16) (.tmp 18) 23 3 rfl tab_int' Try.underlying23 rfl (by omega) w _ (hext.alloc (.cells #[Bv true, I rx] 79)) _ k _ rfl HO2.out [I 1] rfl rfl _ rfl (by simp) (by simp [Value.oneCell']) (by unfold maxLen; omega) (by omega) ?_; intro v' w2 hown2 hx3 _)
        go_roundw
        case rel => exact ⟨k + 1, zs ++ [1], by omega, by go_num, hx3, by simpa using hown2, by rw [show firstM N = _ from HM.out.symm]; simp [firstM]⟩
        case measure => simp [intOf]; omega
    · have hkn : k = rn := by omega
      subst hkn
      have hz : zs = firstM N := by rw [← hM]; simp [firstM, H.out.drop_end hlt]
      subst hz
      have HO := Lib.hid hown
      clear hM hown
      go_wp2
      go_ret
      exact ⟨_, rfl, HO.out, hext⟩
end Go.Proofs.Ytlafiddfplhafaa
/- Small functions of tick, by the program and by the reference. -/
namespace Go.Proofs.Ytlafiddfplhafaa
set_option linter.unusedVariables false
set_option linter.unusedSimpArgs false
open Go.RowKit
theorem pick_next {v l : List Int} {k : Nat} {x : Int} (h : l[k]? = some x) : pickM v (l.take (k + 1)) = pickM v (l.take k) ++ [valI v x] := take_next (valI v) l h
set_option maxHeartbeats 1000000 in
theorem pick_any (VA : Option Addr) (vn vc : Nat) (LA : Option Addr) (ln lc : Nat) (v l : List Int) (w : World) (hv : Sl w VA vn (v.map I)) (hl : Sl w LA ln (l.map I)) (hr : inR vn l) (hn : ln ≤ 1000000) :
    Calls Try.prog 82 #[.slice VA vn vc, .slice LA ln lc] w fun e w' => ∃ r, e = .returned r ∧ w'.ownsRow w.heap.size 3 1 r ln ((pickM v l).map I) ∧ Ext w w' := by
  have HV := Lib.hid hv; have HL := Lib.hid hl; have HR := Lib.hid hr; clear hv hl hr
  go_enter Try.func82, Try.ntmps82
  go_wp2
  go_loopw [5, 10] (fun s i wr => ∃ (k : Nat), k ≤ ln ∧ i = .int .i64 k ∧ Ext w wr ∧ wr.ownsRow w.heap.size 3 1 s k ((pickM v (l.take k)).map I)) (fun _ i _ => ln - (intOf i).toNat)
  case atStart => exact ⟨0, Nat.zero_le _, rfl, Ext.refl _, World.ownsRow_nil _ _ _ _⟩
  case round =>
    obtain ⟨k, hk, rfl, hext, hown⟩ := hrel
    by_cases hlt : k < ln
    · obtain ⟨b, off, x, rfl, hc0, hx⟩ := HL.out.at_ hlt
      have hc := hext.keeps _ _ hc0
      obtain ⟨h0, h1⟩ := HR.out x (List.mem_of_getElem? hx)
      obtain ⟨j, rfl⟩ : ∃ j : Nat, x = j := ⟨x.toNat, by omega⟩
      have hj : j < vn := by omega
      obtain ⟨b', off', y, rfl, hd0, hy⟩ := HV.out.at_ hj
      have hd := hext.keeps _ _ hd0
      have hn2 := pick_next (v := v) hx
      rw [valI_at hy] at hn2
      have HN := Lib.hid hn2; have HO := Lib.hid hown
      clear hn2 hown hx hy hc0 hd0 h0 h1
      go_wp2_with (at_builtin; refine wpList_push rfl (.tmp 14) (.tmp 19) 23 3 rfl tab_int' Try.underlying23 rfl (by omega) w wr hext _ k _ rfl HO.out [I y] rfl rfl rfl (by simp [Value.oneCell']) (by unfold maxLen; omega) (by omega) ?_; intro v' w2 hown2 hx3 _)
      go_roundw
      case rel => exact ⟨k + 1, by omega, by go_num, hx3, by rw [HN.out]; simpa using hown2⟩
      case measure => simp [intOf]; omega
    · have hkn : k = ln := by omega
      subst hkn
      have ht : l.take k = l := List.take_of_length_le (by have := HL.out.len; omega)
      rw [ht] at hown
      have HO := Lib.hid hown; clear hown ht
      go_wp2
      go_ret
      exact ⟨_, rfl, HO.out, hext⟩
theorem nexts_next {rs : List StoreM} {k : Nat} {x : StoreM} (h : rs[k]? = some x) : ((rs.take (k + 1)).map (·.next)).map I = ((rs.take k).map (·.next)).map I ++ [I x.next] := by
  rw [take_next (·.next) rs h, List.map_append]; rfl
section
variable (i : Int) (GA : Option Addr) (gn gc : Nat) (RA : Option Addr) (rn rc : Nat) (OA : Option Addr) (on oc : Nat) (N : NetM) (w : World)
set_option maxHeartbeats 1000000 in
theorem nexts_any (h : NetC w i GA gn gc RA rn rc OA on oc N) (hr : rn ≤ 20) :
    Calls Try.prog 59 #[netV i GA gn gc RA rn rc OA on oc] w fun e w' => ∃ v, e = .returned v ∧ w'.ownsRow w.heap.size 3 1 v rn ((nextsM N).map I) ∧ Ext w w' := by
  have H := Lib.hid h.regs; clear h
  obtain ⟨W, hW⟩ : ∃ W, W = w.alloc (.cells #[I i, .slice GA gn gc, .slice RA rn rc, .slice OA on oc] 39) := ⟨_, rfl⟩
  have hxW : Ext w W := by rw [hW]; exact (Ext.refl _).alloc _
  have HR := Lib.hid (H.out.keep hxW.keeps); have HW := Lib.hid hW; clear H hW
  go_enter Try.func59, Try.ntmps59
  go_wp2_with fail
  rw [← HW.out]
  go_loopw [3, 9] (fun s j wr => ∃ (k : Nat), k ≤ rn ∧ j = .int .i64 k ∧ Ext W wr ∧ wr.ownsRow W.heap.size 3 1 s k (((N.regs.take k).map (·.next)).map I)) (fun _ j _ => rn - (intOf j).toNat)
  case atStart => exact ⟨0, Nat.zero_le _, rfl, Ext.refl _, World.ownsRow_nil _ _ _ _⟩
  case round =>
    obtain ⟨k, hk, rfl, hext, hown⟩ := hrel
    by_cases hlt : k < rn
    · obtain ⟨b, off, r, rfl, hc0, hc1, hd, hx⟩ := HR.out.next hlt
      have hc := hext.keeps _ _ hc0; have hc' := hext.keeps _ _ hc1
      have HN := Lib.hid (nexts_next hx); have HO := Lib.hid (own_ext hown ((Ext.refl wr).alloc (.cells #[Bv r.fst, I r.next] 79)))
      clear hown hx hd hc0 hc1
      go_wp2_with (at_builtin; refine wpList_pushB rfl (.tmp 13) (.tmp 16) 23 3 rfl tab_int' Try.underlying23 rfl (by omega) W _ (hext.alloc (.cells #[Bv r.fst, I r.next] 79)) _ k _ rfl HO.out [I r.next] rfl rfl _ rfl (by simp) (by simp [Value.oneCell']) (by unfold maxLen; omega) (by omega) ?_; intro v' w2 hown2 hx3 _)
      go_roundw
      case rel => exact ⟨k + 1, by omega, by go_num, hx3, by rw [HN.out]; exact hown2⟩
      case measure => simp [intOf]; omega
    · have hkn : k = rn := by omega
      subst hkn
      have ht : N.regs.take k = N.regs := List.take_of_length_le (by have := HR.out.1; omega)
      rw [ht] at hown
      have HO := Lib.hid hown; clear hown ht
      go_wp2
      go_ret
      exact ⟨_, rfl, own_base HO.out hxW.size, hxW.trans hext⟩
end
def indexZ (v : Int) : List Int → Int → Int
  | [], _ => -1
  | x :: l, k => if v = x then k else indexZ v l (k + 1)
theorem indexZ_lo (v : Int) (l : List Int) : ∀ k : Int, 0 ≤ k → decide (0 ≤ indexZ v l k) = l.contains v := by
  induction l with
  | nil => intro k _; simp [indexZ]
  | cons x l ih =>
    intro k hk
    by_cases h : v = x
    · subst h; simp [indexZ, hk]
    · simp only [indexZ, if_neg h, ih (k + 1) (by omega), List.contains_cons]
      simp [h]
theorem indexInt_any (A : Option Addr) (n c : Nat) (xs : List Int) (v : Int) (w : World) (h : Sl w A n (xs.map I)) (hn : n ≤ maxLen) :
    Calls Try.prog 97 #[.slice A n c, I v] w fun e w' => e = .returned (I (indexZ v xs 0)) ∧ w = w' := by
  unfold maxLen at hn
  have H := Lib.hid h; clear h
  go_enter Try.func97, Try.ntmps97
  go_wp2
  go_loop [8] (fun i => ∃ (k : Nat), k ≤ n ∧ i = .int .i64 k ∧ indexZ v (xs.drop k) k = indexZ v xs 0) (fun i => n - (intOf i).toNat)
  case atStart => exact ⟨0, Nat.zero_le _, rfl, rfl⟩
  case round =>
    obtain ⟨k, hk, rfl, hM⟩ := hrel
    by_cases hlt : k < n
    · obtain ⟨b, off, x, rfl, hc, hd⟩ := H.out.next hlt
      rw [hd, indexZ] at hM
      have HM := Lib.hid hM; clear hM hd
      by_cases hv : v = x
      · have hb : (v == x) = true := by simpa using hv
        have HV := Lib.hid hv; clear hv
        go_wp2
        go_ret
        exact ⟨ret_int (by rw [← HM.out, if_pos HV.out]), rfl⟩
      · have hb : (v == x) = false := by simpa using hv
        have HV := Lib.hid hv; clear hv
        go_wp2
        go_round
        case rel => exact ⟨k + 1, by omega, by go_num, by rw [← HM.out, if_neg HV.out]; simp⟩
        case measure => simp [intOf]; omega
    · rw [H.out.drop_end hlt, indexZ] at hM
      have HM := Lib.hid hM; clear hM
      go_wp2
      go_ret
      exact ⟨ret_int HM.out, rfl⟩
theorem containsInt_any (A : Option Addr) (n c : Nat) (xs : List Int) (v : Int) (w : World) (h : Sl w A n (xs.map I)) (hn : n ≤ maxLen) :
    Calls Try.prog 81 #[.slice A n c, I v] w fun e w' => e = .returned (.bool (xs.contains v)) ∧ w = w' := by
  have H := Lib.hid h; clear h
  have HM := Lib.hid (indexZ_lo v xs 0 (Int.le_refl _))
  go_enter Try.func81, Try.ntmps81
  go_wp2_with fail
  refine (indexInt_any A n c xs v w H.out hn).mono ?_; rintro e w' ⟨rfl, rfl⟩
  go_wp2
  go_ret
  exact ⟨ret_bool HM.out, rfl⟩
theorem bits_mix {x : Int} {n k : Nat} (h : k < n) : (mixV (bitsM x n) k n).set k (x / 2 ^ k % 2) = mixV (bitsM x n) (k + 1) n := mixV_set h (bits_at x n k h)
set_option maxHeartbeats 2000000 in
theorem bits_any (x : Int) (n : Nat) (w : World) (hx0 : 0 ≤ x) (hx1 : x < 8) (hn : n ≤ 3) :
    Calls Try.prog 45 #[I x, I n] w fun e w' => ∃ v, e = .returned v ∧ w'.ownsRow w.heap.size 3 1 v n ((bitsM x n).map I) ∧ Ext w w' := by
  have hmk := fun Q => run_make1 (P := Try.prog) 23 3 tab_int' Try.underlying23 rfl n (by omega) (by omega) Q
  have hown0 : (w.alloc (.cells (zeros (.int .i64 0) n) 3)).ownsRow w.heap.size 3 1 (.slice (some ⟨w.heap.size, 0, none⟩) n n) n ((mixV (bitsM x n) 0 n).map I) := by
    have := own_made w 3 (.int .i64 0) n w.heap.size (Nat.le_refl _) (by unfold maxLen; omega)
    simpa [mixV] using this
  have HO0 := Lib.hid hown0; clear hown0
  go_enter Try.func45, Try.ntmps45
  go_wp2_with fail
  clear hmk
  go_loopw [11] (fun j wr => ∃ k : Nat, k ≤ n ∧ j = .int .i64 k ∧ Ext w wr ∧ wr.ownsRow w.heap.size 3 1 (.slice (some ⟨w.heap.size, 0, none⟩) n n) n ((mixV (bitsM x n) k n).map I)) (fun j _ => n - (intOf j).toNat)
  case atStart => exact ⟨0, Nat.zero_le _, rfl, (Ext.refl _).alloc _, HO0.out⟩
  case round =>
    obtain ⟨k, hk, rfl, hext, hv⟩ := hrel
    by_cases hlt : k < n
    · obtain ⟨⟨u, hu, hc⟩, hf, -⟩ := own_at hv hlt
      have hsv := (hv.stored k (I (x / 2 ^ k % 2))).1
      rw [← List.map_set, bits_mix hlt] at hsv
      have hxs := hext.setCell (p := ⟨w.heap.size, k, none⟩) (Nat.le_refl _) (I (x / 2 ^ k % 2))
      have HV := Lib.hid hsv; have HXS := Lib.hid hxs
      clear hv hext hsv hxs hu
      have h1 : x = 0 ∨ x = 1 ∨ x = 2 ∨ x = 3 ∨ x = 4 ∨ x = 5 ∨ x = 6 ∨ x = 7 := by omega
      have h2 : k = 0 ∨ k = 1 ∨ k = 2 := by omega
      clear hx0 hx1 hk
      rcases h1 with rfl | rfl | rfl | rfl | rfl | rfl | rfl | rfl <;> rcases h2 with rfl | rfl | rfl
      all_goals
        go_wp2
        go_roundw
        case rel => exact ⟨_, hlt, rfl, HXS.out, HV.out⟩
        case measure => simp [intOf]; try omega
    · have hkn : k = n := by omega
      subst hkn
      rw [mixV_end (bits_len x k)] at hv
      have HV := Lib.hid hv; clear hv
      go_wp2
      go_ret
      exact ⟨_, rfl, HV.out, hext⟩
/-! the bounds of the instants -/
set_option maxRecDepth 100000 in
theorem times1_any (b : Nat) (n : Nat) (x : Int) (w : World) (hc : w.cell? ⟨b, 0, none⟩ = some (I n)) (hn : n ≤ 3) :
    Calls Try.prog 65 #[I x, .pointer (some ⟨b, 0, none⟩)] w fun e w' => e = .returned (.bool (badTime n x)) ∧ w = w' := by
  have h : n = 0 ∨ n = 1 ∨ n = 2 ∨ n = 3 := by omega
  rcases h with rfl | rfl | rfl | rfl
  all_goals
    go_enter Try.func65, Try.ntmps65
    go_wp2
    all_goals go_ret
    all_goals exact ⟨ret_bool (by simp [badTime]; try omega), rfl⟩
set_option maxRecDepth 100000 in
theorem enter_times1 : ∀ args W, (callFunc 65 args).run Try.prog W = .ok (.enter 65 args) W := by
  intro args W
  go_simp
theorem asks_times1 (b : Nat) (n : Nat) (w : World) (hc : w.cell? ⟨b, 0, none⟩ = some (I n)) (hn : n ≤ 3) : Asks Try.prog 65 #[.pointer (some ⟨b, 0, none⟩)] w (badTime n) := ⟨enter_times1, fun x => times1_any b n x w hc hn⟩
set_option maxHeartbeats 1000000 in
theorem times_any (A : Option Addr) (n c : Nat) (l : List Int) (k : Nat) (w : World) (h : Sl w A n (l.map I)) (hn : n ≤ maxLen) (hk : k ≤ 3) :
    Calls Try.prog 24 #[.slice A n c, I k] w fun e w' => e = .returned (I (timesM l k)) ∧ Ext w w' := by
  have hln := h.len
  generalize hM : timesM l k = M
  unfold timesM at hM
  rw [hln] at hM
  obtain ⟨W, hW⟩ : ∃ W, W = w.alloc (.cells #[I k] 3) := ⟨_, rfl⟩
  have hxW : Ext w W := by rw [hW]; exact (Ext.refl _).alloc _
  have hc : W.cell? ⟨w.heap.size, 0, none⟩ = some (I k) := by rw [hW, World.cell?_alloc_new]; rfl
  have HS := Lib.hid (h.keep hxW.keeps); have HW := Lib.hid hW; have HC := Lib.hid hc
  have HN := Lib.hid hn
  unfold maxLen at hn
  clear h hW hc hln
  by_cases h1 : 60 < n
  · rw [if_pos h1] at hM
    have HM := Lib.hid hM; clear hM
    go_enter Try.func24, Try.ntmps24
    go_wp2
    go_ret
    rw [← HW.out]
    exact ⟨ret_int HM.out, hxW⟩
  · rw [if_neg h1] at hM
    cases hb : l.any (badTime k)
    all_goals
      rw [hb] at hM
      have HM := Lib.hid hM; have HB := Lib.hid hb; clear hM hb
      go_enter Try.func24, Try.ntmps24
      go_wp2_with fail
      rw [← HW.out]
      refine (containsFunc_any A n c l _ _ (badTime k) W HS.out HN.out (asks_times1 w.heap.size k W HC.out hk)).mono ?_; rintro e w' ⟨rfl, rfl⟩; rw [HB.out]
      go_wp2
      go_ret
      exact ⟨ret_int (by rw [← HM.out]; rfl), hxW⟩
end Go.Proofs.Ytlafiddfplhafaa
/- forge.Run: what it refuses. -/
namespace Go.Proofs.Ytlafiddfplhafaa
set_option linter.unusedVariables false
set_option linter.unusedSimpArgs false
open Go.RowKit
/-- The error that Run hands back. -/
def runErr (p : List PNode) (l : List Int) : Int := if checkP p = 0 then timesM l 3 else checkP p
set_option maxHeartbeats 4000000 in
set_option maxRecDepth 100000 in
theorem run_bad (A : Option Addr) (n c : Nat) (p : List PNode) (B : Option Addr) (m d : Nat) (l : List Int) (w : World) (h : SlN w A n p) (hn : n ≤ maxLen) (hl : Sl w B m (l.map I)) (hm : m ≤ maxLen) (hr : runErr p l ≠ 0) :
    Calls Try.prog 7 #[.slice A n c, .slice B m d] w fun e w' => e = .returned (Pr (.slice none 0 0) (I (runErr p l))) ∧ Ext w w' := by
  obtain ⟨x0, hx0⟩ : ∃ x0, x0 = checkP p := ⟨_, rfl⟩
  obtain ⟨y0, hy0⟩ : ∃ y0, y0 = timesM l 3 := ⟨_, rfl⟩
  unfold runErr at hr ⊢
  rw [← hx0, ← hy0] at hr
  rw [← hx0, ← hy0]
  have H := Lib.hid h; have HQ := Lib.hid hx0; have HN := Lib.hid hn; have HL := Lib.hid hl; have HM := Lib.hid hm; have HY := Lib.hid hy0
  clear h hx0 hn hl hm hy0
  by_cases h0 : x0 = 0
  · rw [if_pos h0] at hr
    rw [if_pos h0]
    rw [h0] at HQ
    clear h0
    go_enter Try.func7, Try.ntmps7
    go_wp2_with fail
    refine (progCheck_any _ n c p w H.out HN.out).mono ?_; rintro e w1 ⟨rfl, x1⟩; rw [← HQ.out]
    have X1 := Lib.hid x1; clear x1
    go_wp2_with fail
    refine (times_any B m d l 3 w1 (HL.out.keep X1.out.keeps) HM.out (by omega)).mono ?_; rintro e w2 ⟨rfl, x2⟩; rw [← HY.out]
    have X2 := Lib.hid (X1.out.trans x2); clear x2
    go_wp2
    exact bodyPost_ret (v := Pr (.slice none 0 0) (I y0)) (by simp [results, Try.results7, go_sem]) rfl ⟨rfl, X2.out⟩
  · rw [if_neg h0] at hr
    rw [if_neg h0]
    go_enter Try.func7, Try.ntmps7
    go_wp2_with fail
    refine (progCheck_any _ n c p w H.out HN.out).mono ?_; rintro e w1 ⟨rfl, x1⟩; rw [← HQ.out]
    have X1 := Lib.hid x1; clear x1
    go_wp2
    exact bodyPost_ret (v := Pr (.slice none 0 0) (I x0)) (by simp [results, Try.results7, go_sem]) rfl ⟨rfl, X1.out⟩
end Go.Proofs.Ytlafiddfplhafaa
