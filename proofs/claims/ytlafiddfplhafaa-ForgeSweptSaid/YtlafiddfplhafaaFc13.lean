/- Small functions of tick, by the program and by the reference. -/
import Derived.Test.YtlafiddfplhafaaFc08
import Derived.Test.YtlafiddfplhafaaFc12
import Derived.Test.YtlafiddfplhafaaFc09
namespace Go.Proofs.Ytlafiddfplhafaa
set_option linter.unusedVariables false
set_option linter.unusedSimpArgs false
set_option linter.unusedVariables false
set_option linter.unusedSimpArgs false
open Go.RowKit
theorem pick_next {v l : List Int} {k : Nat} {x : Int} (h : l[k]? = some x) : pickM v (l.take (k + 1)) = pickM v (l.take k) ++ [valI v x] := take_next (valI v) l h
set_option maxHeartbeats 1000000 in
theorem pick_any (VA : Option Addr) (vn vc : Nat) (LA : Option Addr) (ln lc : Nat) (v l : List Int) (w : World) (hv : Sl w VA vn (v.map I)) (hl : Sl w LA ln (l.map I)) (hr : inR vn l) (hn : ln ≤ 1000000) :
    Calls Try.prog 82 #[.slice VA vn vc, .slice LA ln lc] w fun e w' => ∃ r, e = .returned r ∧ w'.ownsRow w.heap.size 3 1 r ln ((pickM v l).map I) ∧ Ext w w' := by
  have HV := Lib.hid hv; have HL := Lib.hid hl; have HR := Lib.hid hr; clear hv hl hr
  go_enter Try.func82, Try.ntmps82
  go_wp2
  go_loopw [5, 10] (fun s i wr => ∃ (k : Nat), k ≤ ln ∧ i = .int .i64 k ∧ Ext w wr ∧ wr.ownsRow w.heap.size 3 1 s k ((pickM v (l.take k)).map I)) (fun _ i _ => ln - (intOf i).toNat)
  case atStart => exact ⟨0, Nat.zero_le _, rfl, Ext.refl _, World.ownsRow_nil _ _ _ _⟩
  case round =>
    obtain ⟨k, hk, rfl, hext, hown⟩ := hrel
    by_cases hlt : k < ln
    · obtain ⟨b, off, x, rfl, hc0, hx⟩ := HL.out.at_ hlt
      have hc := hext.keeps _ _ hc0
      obtain ⟨h0, h1⟩ := HR.out x (List.mem_of_getElem? hx)
      obtain ⟨j, rfl⟩ : ∃ j : Nat, x = j := ⟨x.toNat, by omega⟩
      have hj : j < vn := by omega
      obtain ⟨b', off', y, rfl, hd0, hy⟩ := HV.out.at_ hj
      have hd := hext.keeps _ _ hd0
      have hn2 := pick_next (v := v) hx
      rw [valI_at hy] at hn2
      have HN := Lib.hid hn2; have HO := Lib.hid hown
      clear hn2 hown hx hy hc0 hd0 h0 h1
      go_wp2_with (at_builtin; refine wpList_push rfl (.tmp 14) (.tmp 19) 23 3 rfl tab_int' Try.underlying23 rfl (by omega) w wr hext _ k _ rfl HO.out [I y] rfl rfl rfl (by simp [Value.oneCell']) (by unfold maxLen; omega) (by omega) ?_; intro v' w2 hown2 hx3 _)
      go_roundw
      case rel => exact ⟨k + 1, by omega, by go_num, hx3, by rw [HN.out]; simpa using hown2⟩
      case measure => simp [intOf]; omega
    · have hkn : k = ln := by omega
      subst hkn
      have ht : l.take k = l := List.take_of_length_le (by have := HL.out.len; omega)
      rw [ht] at hown
      have HO := Lib.hid hown; clear hown ht
      go_wp2
      go_ret
      exact ⟨_, rfl, HO.out, hext⟩
theorem nexts_next {rs : List StoreM} {k : Nat} {x : StoreM} (h : rs[k]? = some x) : ((rs.take (k + 1)).map (·.next)).map I = ((rs.take k).map (·.next)).map I ++ [I x.next] := by
  rw [take_next (·.next) rs h, List.map_append]; rfl
section
variable (i : Int) (GA : Option Addr) (gn gc : Nat) (RA : Option Addr) (rn rc : Nat) (OA : Option Addr) (on oc : Nat) (N : NetM) (w : World)
set_option maxHeartbeats 1000000 in
theorem nexts_any (h : NetC w i GA gn gc RA rn rc OA on oc N) (hr : rn ≤ 20) :
    Calls Try.prog 59 #[netV i GA gn gc RA rn rc OA on oc] w fun e w' => ∃ v, e = .returned v ∧ w'.ownsRow w.heap.size 3 1 v rn ((nextsM N).map I) ∧ Ext w w' := by
  have H := Lib.hid h.regs; clear h
  obtain ⟨W, hW⟩ : ∃ W, W = w.alloc (.cells #[I i, .slice GA gn gc, .slice RA rn rc, .slice OA on oc] 39) := ⟨_, rfl⟩
  have hxW : Ext w W := by rw [hW]; exact (Ext.refl _).alloc _
  have HR := Lib.hid (H.out.keep hxW.keeps); have HW := Lib.hid hW; clear H hW
  go_enter Try.func59, Try.ntmps59
  go_wp2_with fail
  rw [← HW.out]
  go_loopw [3, 9] (fun s j wr => ∃ (k : Nat), k ≤ rn ∧ j = .int .i64 k ∧ Ext W wr ∧ wr.ownsRow W.heap.size 3 1 s k (((N.regs.take k).map (·.next)).map I)) (fun _ j _ => rn - (intOf j).toNat)
  case atStart => exact ⟨0, Nat.zero_le _, rfl, Ext.refl _, World.ownsRow_nil _ _ _ _⟩
  case round =>
    obtain ⟨k, hk, rfl, hext, hown⟩ := hrel
    by_cases hlt : k < rn
    · obtain ⟨b, off, r, rfl, hc0, hc1, hd, hx⟩ := HR.out.next hlt
      have hc := hext.keeps _ _ hc0; have hc' := hext.keeps _ _ hc1
      have HN := Lib.hid (nexts_next hx); have HO := Lib.hid (own_ext hown ((Ext.refl wr).alloc (.cells #[Bv r.fst, I r.next] 79)))
      clear hown hx hd hc0 hc1
      go_wp2_with (at_builtin; refine wpList_pushB rfl (.tmp 13) (.tmp 16) 23 3 rfl tab_int' Try.underlying23 rfl (by omega) W _ (hext.alloc (.cells #[Bv r.fst, I r.next] 79)) _ k _ rfl HO.out [I r.next] rfl rfl _ rfl (by simp) (by simp [Value.oneCell']) (by unfold maxLen; omega) (by omega) ?_; intro v' w2 hown2 hx3 _)
      go_roundw
      case rel => exact ⟨k + 1, by omega, by go_num, hx3, by rw [HN.out]; exact hown2⟩
      case measure => simp [intOf]; omega
    · have hkn : k = rn := by omega
      subst hkn
      have ht : N.regs.take k = N.regs := List.take_of_length_le (by have := HR.out.1; omega)
      rw [ht] at hown
      have HO := Lib.hid hown; clear hown ht
      go_wp2
      go_ret
      exact ⟨_, rfl, own_base HO.out hxW.size, hxW.trans hext⟩
end
def indexZ (v : Int) : List Int → Int → Int
  | [], _ => -1
  | x :: l, k => if v = x then k else indexZ v l (k + 1)
theorem indexZ_lo (v : Int) (l : List Int) : ∀ k : Int, 0 ≤ k → decide (0 ≤ indexZ v l k) = l.contains v := by
  induction l with
  | nil => intro k _; simp [indexZ]
  | cons x l ih =>
    intro k hk
    by_cases h : v = x
    · subst h; simp [indexZ, hk]
    · simp only [indexZ, if_neg h, ih (k + 1) (by omega), List.contains_cons]
      simp [h]
theorem indexInt_any (A : Option Addr) (n c : Nat) (xs : List Int) (v : Int) (w : World) (h : Sl w A n (xs.map I)) (hn : n ≤ maxLen) :
    Calls Try.prog 97 #[.slice A n c, I v] w fun e w' => e = .returned (I (indexZ v xs 0)) ∧ w = w' := by
  unfold maxLen at hn
  have H := Lib.hid h; clear h
  go_enter Try.func97, Try.ntmps97
  go_wp2
  go_loop [8] (fun i => ∃ (k : Nat), k ≤ n ∧ i = .int .i64 k ∧ indexZ v (xs.drop k) k = indexZ v xs 0) (fun i => n - (intOf i).toNat)
  case atStart => exact ⟨0, Nat.zero_le _, rfl, rfl⟩
  case round =>
    obtain ⟨k, hk, rfl, hM⟩ := hrel
    by_cases hlt : k < n
    · obtain ⟨b, off, x, rfl, hc, hd⟩ := H.out.next hlt
      rw [hd, indexZ] at hM
      have HM := Lib.hid hM; clear hM hd
      by_cases hv : v = x
      · have hb : (v == x) = true := by simpa using hv
        have HV := Lib.hid hv; clear hv
        go_wp2
        go_ret
        exact ⟨ret_int (by rw [← HM.out, if_pos HV.out]), rfl⟩
      · have hb : (v == x) = false := by simpa using hv
        have HV := Lib.hid hv; clear hv
        go_wp2
        go_round
        case rel => exact ⟨k + 1, by omega, by go_num, by rw [← HM.out, if_neg HV.out]; simp⟩
        case measure => simp [intOf]; omega
    · rw [H.out.drop_end hlt, indexZ] at hM
      have HM := Lib.hid hM; clear hM
      go_wp2
      go_ret
      exact ⟨ret_int HM.out, rfl⟩
theorem containsInt_any (A : Option Addr) (n c : Nat) (xs : List Int) (v : Int) (w : World) (h : Sl w A n (xs.map I)) (hn : n ≤ maxLen) :
    Calls Try.prog 81 #[.slice A n c, I v] w fun e w' => e = .returned (.bool (xs.contains v)) ∧ w = w' := by
  have H := Lib.hid h; clear h
  have HM := Lib.hid (indexZ_lo v xs 0 (Int.le_refl _))
  go_enter Try.func81, Try.ntmps81
  go_wp2_with fail
  refine (indexInt_any A n c xs v w H.out hn).mono ?_; rintro e w' ⟨rfl, rfl⟩
  go_wp2
  go_ret
  exact ⟨ret_bool HM.out, rfl⟩
theorem bits_mix {x : Int} {n k : Nat} (h : k < n) : (mixV (bitsM x n) k n).set k (x / 2 ^ k % 2) = mixV (bitsM x n) (k + 1) n := mixV_set h (bits_at x n k h)
set_option maxHeartbeats 2000000 in
theorem bits_any (x : Int) (n : Nat) (w : World) (hx0 : 0 ≤ x) (hx1 : x < 8) (hn : n ≤ 3) :
    Calls Try.prog 45 #[I x, I n] w fun e w' => ∃ v, e = .returned v ∧ w'.ownsRow w.heap.size 3 1 v n ((bitsM x n).map I) ∧ Ext w w' := by
  have hmk := fun Q => run_make1 (P := Try.prog) 23 3 tab_int' Try.underlying23 rfl n (by omega) (by omega) Q
  have hown0 : (w.alloc (.cells (zeros (.int .i64 0) n) 3)).ownsRow w.heap.size 3 1 (.slice (some ⟨w.heap.size, 0, none⟩) n n) n ((mixV (bitsM x n) 0 n).map I) := by
    have := own_made w 3 (.int .i64 0) n w.heap.size (Nat.le_refl _) (by unfold maxLen; omega)
    simpa [mixV] using this
  have HO0 := Lib.hid hown0; clear hown0
  go_enter Try.func45, Try.ntmps45
  go_wp2_with fail
  clear hmk
  go_loopw [11] (fun j wr => ∃ k : Nat, k ≤ n ∧ j = .int .i64 k ∧ Ext w wr ∧ wr.ownsRow w.heap.size 3 1 (.slice (some ⟨w.heap.size, 0, none⟩) n n) n ((mixV (bitsM x n) k n).map I)) (fun j _ => n - (intOf j).toNat)
  case atStart => exact ⟨0, Nat.zero_le _, rfl, (Ext.refl _).alloc _, HO0.out⟩
  case round =>
    obtain ⟨k, hk, rfl, hext, hv⟩ := hrel
    by_cases hlt : k < n
    · obtain ⟨⟨u, hu, hc⟩, hf, -⟩ := own_at hv hlt
      have hsv := (hv.stored k (I (x / 2 ^ k % 2))).1
      rw [← List.map_set, bits_mix hlt] at hsv
      have hxs := hext.setCell (p := ⟨w.heap.size, k, none⟩) (Nat.le_refl _) (I (x / 2 ^ k % 2))
      have HV := Lib.hid hsv; have HXS := Lib.hid hxs
      clear hv hext hsv hxs hu
      have h1 : x = 0 ∨ x = 1 ∨ x = 2 ∨ x = 3 ∨ x = 4 ∨ x = 5 ∨ x = 6 ∨ x = 7 := by omega
      have h2 : k = 0 ∨ k = 1 ∨ k = 2 := by omega
      clear hx0 hx1 hk
      rcases h1 with rfl | rfl | rfl | rfl | rfl | rfl | rfl | rfl <;> rcases h2 with rfl | rfl | rfl
      all_goals
        go_wp2
        go_roundw
        case rel => exact ⟨_, hlt, rfl, HXS.out, HV.out⟩
        case measure => simp [intOf]; try omega
    · have hkn : k = n := by omega
      subst hkn
      rw [mixV_end (bits_len x k)] at hv
      have HV := Lib.hid hv; clear hv
      go_wp2
      go_ret
      exact ⟨_, rfl, HV.out, hext⟩
/-! the bounds of the instants -/
set_option maxRecDepth 100000 in
theorem times1_any (b : Nat) (n : Nat) (x : Int) (w : World) (hc : w.cell? ⟨b, 0, none⟩ = some (I n)) (hn : n ≤ 3) :
    Calls Try.prog 65 #[I x, .pointer (some ⟨b, 0, none⟩)] w fun e w' => e = .returned (.bool (badTime n x)) ∧ w = w' := by
  have h : n = 0 ∨ n = 1 ∨ n = 2 ∨ n = 3 := by omega
  rcases h with rfl | rfl | rfl | rfl
  all_goals
    go_enter Try.func65, Try.ntmps65
    go_wp2
    all_goals go_ret
    all_goals exact ⟨ret_bool (by simp [badTime]; try omega), rfl⟩
set_option maxRecDepth 100000 in
theorem enter_times1 : ∀ args W, (callFunc 65 args).run Try.prog W = .ok (.enter 65 args) W := by
  intro args W
  go_simp
theorem asks_times1 (b : Nat) (n : Nat) (w : World) (hc : w.cell? ⟨b, 0, none⟩ = some (I n)) (hn : n ≤ 3) : Asks Try.prog 65 #[.pointer (some ⟨b, 0, none⟩)] w (badTime n) := ⟨enter_times1, fun x => times1_any b n x w hc hn⟩
set_option maxHeartbeats 1000000 in
theorem times_any (A : Option Addr) (n c : Nat) (l : List Int) (k : Nat) (w : World) (h : Sl w A n (l.map I)) (hn : n ≤ maxLen) (hk : k ≤ 3) :
    Calls Try.prog 24 #[.slice A n c, I k] w fun e w' => e = .returned (I (timesM l k)) ∧ Ext w w' := by
  have hln := h.len
  generalize hM : timesM l k = M
  unfold timesM at hM
  rw [hln] at hM
  obtain ⟨W, hW⟩ : ∃ W, W = w.alloc (.cells #[I k] 3) := ⟨_, rfl⟩
  have hxW : Ext w W := by rw [hW]; exact (Ext.refl _).alloc _
  have hc : W.cell? ⟨w.heap.size, 0, none⟩ = some (I k) := by rw [hW, World.cell?_alloc_new]; rfl
  have HS := Lib.hid (h.keep hxW.keeps); have HW := Lib.hid hW; have HC := Lib.hid hc
  have HN := Lib.hid hn
  unfold maxLen at hn
  clear h hW hc hln
  by_cases h1 : 60 < n
  · rw [if_pos h1] at hM
    have HM := Lib.hid hM; clear hM
    go_enter Try.func24, Try.ntmps24
    go_wp2
    go_ret
    rw [← HW.out]
    exact ⟨ret_int HM.out, hxW⟩
  · rw [if_neg h1] at hM
    cases hb : l.any (badTime k)
    all_goals
      rw [hb] at hM
      have HM := Lib.hid hM; have HB := Lib.hid hb; clear hM hb
      go_enter Try.func24, Try.ntmps24
      go_wp2_with fail
      rw [← HW.out]
      refine (containsFunc_any A n c l _ _ (badTime k) W HS.out HN.out (asks_times1 w.heap.size k W HC.out hk)).mono ?_; rintro e w' ⟨rfl, rfl⟩; rw [HB.out]
      go_wp2
      go_ret
      exact ⟨ret_int (by rw [← HM.out]; rfl), hxW⟩
end Go.Proofs.Ytlafiddfplhafaa
/- The board of pack: lay, play. -/
namespace Go.Proofs.Ytlafiddfplhafaa
set_option linter.unusedVariables false
set_option linter.unusedSimpArgs false
open Go.RowKit
structure Board (w : World) (base bb nb vb : Nat) (LA : Option Addr) (lc gn : Nat) (l : List Int) (v : List (BitVec 64)) : Prop where
  c0 : w.cell? ⟨bb, 0, none⟩ = some (.pointer (some ⟨nb, 0, none⟩))
  c1 : w.cell? ⟨bb, 1, none⟩ = some (.slice LA l.length lc)
  c2 : w.cell? ⟨bb, 2, none⟩ = some (.slice (some ⟨vb, 0, none⟩) gn gn)
  lm : l.length ≤ lc ∧ lc ≤ maxLen
  sl : Sl w LA l.length (l.map I)
  row : w.ownsRow base 55 1 (.slice (some ⟨vb, 0, none⟩) gn gn) gn (v.map U)
  bne : bb ≠ vb
  lne : ∀ p, LA = some p → p.block ≠ vb
section
variable {w w' : World} {base bb nb vb : Nat} {LA : Option Addr} {lc gn : Nat} {l : List Int} {v v' : List (BitVec 64)}
theorem Board.vl (h : Board w base bb nb vb LA lc gn l v) : v.length = gn := by have := h.row.1; simpa using this
theorem Board.vbase (h : Board w base bb nb vb LA lc gn l v) : base ≤ vb := (h.row.lt vb rfl).1
theorem Board.ext (h : Board w base bb nb vb LA lc gn l v) (k : Ext w w') : Board w' base bb nb vb LA lc gn l v :=
  ⟨k.keeps _ _ h.c0, k.keeps _ _ h.c1, k.keeps _ _ h.c2, h.lm, h.sl.keep k.keeps, own_ext h.row k, h.bne, h.lne⟩
theorem Board.aside (h : Board w base bb nb vb LA lc gn l v) (k : Aside vb vb w w') (hr : w'.ownsRow base 55 1 (.slice (some ⟨vb, 0, none⟩) gn gn) gn (v'.map U)) : Board w' base bb nb vb LA lc gn l v' :=
  ⟨k.cell h.c0 h.bne h.bne, k.cell h.c1 h.bne h.bne, k.cell h.c2 h.bne h.bne, h.lm, h.sl.aside k (fun p e => ⟨h.lne p e, h.lne p e⟩), hr, h.bne, h.lne⟩
theorem Board.base_le {base' : Nat} (h : Board w base bb nb vb LA lc gn l v) (hb : base' ≤ base) : Board w base' bb nb vb LA lc gn l v :=
  ⟨h.c0, h.c1, h.c2, h.lm, h.sl, own_base h.row hb, h.bne, h.lne⟩
end
theorem Sl.aside0 {vb : Nat} {a b : World} {A : Option Addr} {n : Nat} {cs : List Value} (h : Sl a A n cs) (k : Aside vb vb a b) (hA : ∀ p, A = some p → 0 < n → p.block ≠ vb) : Sl b A n cs := by
  rcases Nat.eq_zero_or_pos n with e | e
  · subst e
    rw [List.eq_nil_of_length_eq_zero h.1]; exact Sl.nil _ _
  · exact h.aside k (fun p hp => ⟨hA p hp e, hA p hp e⟩)
section
variable (i : Int) (GA : Option Addr) (gn gc : Nat) (RA : Option Addr) (rn rc : Nat) (OA : Option Addr) (on oc : Nat) (N : NetM) (nb : Nat)
theorem lay_bad (w : World) (hb : NetBox w nb i GA gn gc RA rn rc OA on oc) (h : NetC w i GA gn gc RA rn rc OA on oc N) (hbad : (orderV N).2 ≠ 0) :
    Calls Try.prog 60 #[.pointer (some ⟨nb, 0, none⟩)] w fun e w' => e = .returned (Pr (.pointer none) (I (orderV N).2)) ∧ Ext w w' := by
  have hno := order_any i GA gn gc RA rn rc OA on oc N w h
  have g : ((orderV N).2 != 0) = true := by simpa using hbad
  generalize (orderV N).2 = E at *
  obtain ⟨q0, q1, q2, q3⟩ := hb
  have HNO := Lib.hid hno; clear hno h hbad
  go_enter Try.func60, Try.ntmps60
  go_wp2_with fail
  refine HNO.out.mono ?_; rintro e w1 ⟨v, rfl, -, x1⟩
  have X1 := Lib.hid x1; clear x1 q0 q1 q2 q3 HNO
  go_wp2
  go_ret2
  exact ⟨rfl, X1.out⟩
set_option maxHeartbeats 2000000 in
theorem lay_good (w : World) (hb : NetBox w nb i GA gn gc RA rn rc OA on oc) (h : NetC w i GA gn gc RA rn rc OA on oc N) (l : List Int) (hO : orderV N = (l, 0)) (hgn : gn ≤ 200) :
    Calls Try.prog 60 #[.pointer (some ⟨nb, 0, none⟩)] w fun e w' => ∃ bb vb LA lc, e = .returned (Pr (.pointer (some ⟨bb, 0, none⟩)) (I 0)) ∧ Board w' w.heap.size bb nb vb LA lc gn l (List.replicate gn 0#64) ∧ Ext w w' := by
  have hno := order_any i GA gn gc RA rn rc OA on oc N w h
  rw [hO] at hno
  have HB := Lib.hid hb
  have HNO := Lib.hid hno; clear hno h hO hb
  obtain ⟨q0, q1, q2, q3⟩ := HB.out
  go_enter Try.func60, Try.ntmps60
  go_wp2_with fail
  refine HNO.out.mono ?_; rintro e w1 ⟨v, rfl, hown, x1⟩
  have hlt := hown.lt
  obtain ⟨LA, lc, rfl, hlc, hlm, hls⟩ := own_sl hown
  obtain ⟨W2, hW2⟩ : ∃ W2, W2 = w1.alloc (.cells (zeros (.int .u64 0) gn) 55) := ⟨_, rfl⟩
  obtain ⟨W3, hW3⟩ : ∃ W3, W3 = W2.alloc (.cells #[.pointer (some ⟨nb, 0, none⟩), .slice LA l.length lc, .slice (some ⟨w1.heap.size, 0, none⟩) gn gn] 149) := ⟨_, rfl⟩
  have xw2 : Ext w1 W2 := by rw [hW2]; exact (Ext.refl _).alloc _
  obtain ⟨y0, y1, y2, x3⟩ := box3 W2 _ _ _ _ hW3
  have hsz : W2.heap.size = w1.heap.size + 1 := by rw [hW2]; simp
  rw [hsz] at y0 y1 y2
  have hown0 : W2.ownsRow w.heap.size 55 1 (.slice (some ⟨w1.heap.size, 0, none⟩) gn gn) gn ((List.replicate gn 0#64).map U) := by
    have := own_made w1 55 (.int .u64 0) gn w.heap.size x1.size (by unfold maxLen; omega)
    rw [show (List.replicate gn (0#64 : BitVec 64)).map U = List.replicate gn (.int .u64 0) from by rw [List.map_replicate]; rfl, hW2]
    exact this
  have hfin : Board W3 w.heap.size (w1.heap.size + 1) nb w1.heap.size LA lc gn l (List.replicate gn 0#64) :=
    ⟨y0, y1, y2, ⟨hlc, hlm⟩, hls.keep (xw2.trans x3).keeps, own_ext hown0 x3, by omega, fun p e => by
      subst e
      have hs := hls.2
      have := (hlt p.block rfl).2
      omega⟩
  have HF := Lib.hid hfin; have HX := Lib.hid ((x1.trans xw2).trans x3)
  have HW3 : Hid (W3 = (w1.alloc (.cells (zeros (.int .u64 0) gn) 55)).alloc (.cells #[.pointer (some ⟨nb, 0, none⟩), .slice LA l.length lc, .slice (some ⟨w1.heap.size, 0, none⟩) gn gn] 149)) := by unfold Hid; rw [hW3, hW2]
  have hmk := fun Q => run_make1 (P := Try.prog) 54 55 tab_u64 Try.underlying54 rfl gn (by omega) (by omega) Q
  obtain ⟨q0, q1, q2, q3⟩ := HB.out.keep x1.keeps
  clear hown hlt hls hW2 hW3 y0 y1 y2 x3 xw2 x1 hsz hown0 hfin hlc hlm HNO
  go_wp2
  rw [← HW3.out]
  go_ret2
  exact ⟨_, _, _, _, rfl, HF.out, HX.out⟩
set_option maxRecDepth 100000 in
set_option maxHeartbeats 4000000 in
theorem playWord_any (w0 w : World) (base bb vb : Nat) (LA : Option Addr) (lc : Nat) (l : List Int) (v : List (BitVec 64)) (RB : Option Addr) (pc : Nat) (IA : Option Addr) (jn jc : Nat) (regs ins : List (BitVec 64))
    (hx : Ext w0 w) (hbase : w0.heap.size ≤ base) (hb : NetBox w0 nb i GA gn gc RA rn rc OA on oc) (h : NetC w0 i GA gn gc RA rn rc OA on oc N) (B : Board w base bb nb vb LA lc gn l v) (ok : NetOK N) (hO : orderM N.gates = some l)
    (hr : Sl w RB rn (regs.map U)) (hrne : ∀ p, RB = some p → 0 < rn → p.block ≠ vb) (hi : Sl w0 IA jn (ins.map U)) (hjn : (jn : Int) = N.ins) :
    Calls Try.prog 63 #[.pointer (some ⟨bb, 0, none⟩), .slice RB rn pc, .slice IA jn jc] w fun e w' => ∃ vo vn v', e = .returned (Pr vo vn) ∧ w'.ownsRow w.heap.size 55 1 vo on ((playW N regs ins).1.map U) ∧ w'.ownsRow w.heap.size 55 1 vn rn ((playW N regs ins).2.map U) ∧
      Board w' base bb nb vb LA lc gn l v' ∧ Aside vb vb w w' := by
  have hgl : N.gates.length = gn := h.gates.1
  have hrl : N.regs.length = rn := h.regs.1
  have hol : N.outs.length = on := h.outs.len
  have hvl := B.vl
  have hll := (orderM_ord hO).1
  rw [hgl] at hll
  have hgn : gn ≤ 200 := by have := ok.gl; omega
  have hpq := wplay_any ok hO regs ins (v := v) (by rw [hvl, hgl])
  generalize hF : alongW N.gates regs ins l v = F at *
  have hFl : F.length = gn := by rw [← hF, alongW_len, hvl]
  have hmL : LA = LA := rfl
  have HB := Lib.hid B; have HX := Lib.hid hx; have HBox := Lib.hid hb; have HN := Lib.hid h; have HOK := Lib.hid ok; have HR := Lib.hid hr; have HI := Lib.hid hi; have HPQ := Lib.hid hpq; have HF := Lib.hid hF; have HO := Lib.hid hO; have HRN := Lib.hid hrne; have HJN := Lib.hid hjn; have HFL := Lib.hid hFl; have HVL := Lib.hid hvl
  have hl200 : l.length ≤ 200 := by omega
  have c1 := B.c1
  have hlcm := B.lm
  unfold maxLen at hlcm
  have HGL := Lib.hid hgl; have HRL := Lib.hid hrl; have HOL := Lib.hid hol
  clear B hx hb h ok hr hi hpq hF hO hrne hmL hjn hFl hvl hgl hrl hol hll
  go_enter Try.func63, Try.ntmps63
  go_wp2_with fail
  clear c1
  go_loopw [15] (fun j wr => ∃ (q : Nat) (vv : List (BitVec 64)), q ≤ l.length ∧ j = .int .i64 q ∧ Aside vb vb w wr ∧ Board wr base bb nb vb LA lc gn l vv ∧ alongW N.gates regs ins (l.drop q) vv = F) (fun j _ => l.length - (intOf j).toNat)
  case atStart => exact ⟨0, v, Nat.zero_le _, rfl, Aside.refl _ _ _, HB.out, HF.out⟩
  case round =>
    obtain ⟨q, vv, hq, rfl, has, hbd, hAL⟩ := hrel
    have hx0 : Ext w0 wr := has.ext HX.out (Nat.le_trans hbase HB.out.vbase) (Nat.le_trans hbase HB.out.vbase)
    by_cases hlt : q < l.length
    · obtain ⟨bL, oL, x, rfl, hcL, hdL⟩ := hbd.sl.next hlt
      have hxm : x ∈ l := by
        have : x ∈ l.drop q := by rw [hdL]; simp
        exact List.mem_of_mem_drop this
      obtain ⟨hx0', g, hxg⟩ := ord_range (orderM_ord HO.out).2 x hxm
      obtain ⟨j, rfl⟩ : ∃ j : Nat, x = j := ⟨x.toNat, by omega⟩
      rw [Int.toNat_natCast] at hxg
      have hjl : j < gn := by have := (List.getElem?_eq_some_iff.1 hxg).1; have := HGL.out; omega
      rw [hdL, alongW, Int.toNat_natCast, hxg, Option.getD_some] at hAL
      obtain ⟨b, offg, A', m, c', gt, rfl, g0, g1, g2, hsg, hmc, hcm2, hd, hgt⟩ := HN.out.gates.next hjl
      obtain rfl : g = gt := by rw [hxg] at hgt; exact Option.some.inj hgt
      have k0 := hx0.keeps _ _ g0; have k1 := hx0.keeps _ _ g1; have k2 := hx0.keeps _ _ g2
      have hgr := HOK.out.gate (List.mem_of_getElem? hgt)
      rw [HGL.out] at hgr
      have hjn2 : jn = N.ins.toNat := by have := HJN.out; omega
      rw [← hjn2, HRL.out] at hgr
      have hrr : Sl wr RB rn (regs.map U) := HR.out.aside0 has HRN.out
      have hwv : Sl wr (some ⟨vb, 0, none⟩) gn (vv.map U) := by obtain ⟨A5, c5, e5, -, -, hsl⟩ := own_sl hbd.row; injection e5 with e5 _ _; rw [e5]; exact hsl
      generalize hX : ofW regs ins vv g = X at *
      have hof : ∀ Q, Ext wr Q → Calls Try.prog 90 #[.pointer (some ⟨bb, 0, none⟩), gateV g.kind g.num A' m c', .slice RB rn pc, .slice IA jn jc] Q fun e w' => e = .returned (U X) ∧ Ext Q w' := fun Q hQ => by
        rw [← hX]
        exact wordOf_any bb _ gn gn A' m c' RB rn pc IA jn jc regs ins vv g Q (hQ.keeps _ _ hbd.c2) (hrr.keep hQ.keeps) ((HI.out.keep hx0.keeps).keep hQ.keeps) ((hsg.keep hx0.keeps).keep hQ.keeps) (hwv.keep hQ.keeps) hgr
      have B0 : Hid (wr.cell? ⟨bb, 0, none⟩ = some (.pointer (some ⟨nb, 0, none⟩))) := hbd.c0
      have B2 : Hid (wr.cell? ⟨bb, 2, none⟩ = some (.slice (some ⟨vb, 0, none⟩) gn gn)) := hbd.c2
      have Q1 := Lib.hid (HBox.out.keep hx0.keeps).2.1
      have HOF := Lib.hid hof; have HA := Lib.hid has; have HAL := Lib.hid hAL; have HBD := Lib.hid hbd
      have K0 := Lib.hid k0; have K1 := Lib.hid k1; have K2 := Lib.hid k2
      clear hof has hbd hAL k0 k1 k2 g0 g1 g2 hsg hd hgt hxg hdL hxm hgr hX hmc hx0' hjn2 hrr hwv hx0 HB
      go_upto_region 4 with fail
      refine wp_flow3 19 2 [isV (.pointer (some ⟨bb, 0, none⟩)), isV (.pointer (some ⟨bb, 0, none⟩)), isV (.pointer (some ⟨bb, 2, none⟩)), isV (.slice (some ⟨vb, 0, none⟩) gn gn), isV (.int .i64 j), isV (.pointer (some ⟨bb, 0, none⟩)), isV (.pointer (some ⟨bb, 0, none⟩)), isV (.pointer (some ⟨bb, 0, none⟩)), isV (.pointer (some ⟨bb, 0, none⟩)), isV (.pointer (some ⟨nb, 0, none⟩)), isV (.pointer (some ⟨nb, 0, none⟩)), isV (.pointer (some ⟨nb, 1, none⟩)), isV (.slice (some ⟨b, offg, none⟩) gn gc), isV (.int .i64 j), isV (.pointer (some ⟨b, offg + j * 3, none⟩)), isV (.agg #[I g.kind, I g.num, .slice A' m c']), isV (.slice RB rn pc), isV (.slice IA jn jc), isV (U X)] (by kernel_rfl) rfl rfl (by kernel_rfl) (by kernel_rfl) ⟨isV_mono, isV_mono, isV_mono, isV_mono, isV_mono, isV_mono, isV_mono, isV_mono, isV_mono, isV_mono, isV_mono, isV_mono, isV_mono, isV_mono, isV_mono, isV_mono, isV_mono, isV_mono, isV_mono, trivial⟩ ?each ?rest
      case each =>
        refine .cons ?_ (.cons ?_ (.cons ?_ (.cons ?_ (.cons ?_ (.cons ?_ (.cons ?_ (.cons ?_ (.cons ?_ (.cons ?_ (.cons ?_ (.cons ?_ (.cons ?_ (.cons ?_ (.cons ?_ (.cons ?_ (.cons ?_ (.cons ?_ (.cons ?_ (.nil)))))))))))))))))))
        · intro fa fw hx hs hb
          have s0 : fa.tmps[(0 : Nat)]? = some (.pointer (some ⟨bb, 0, none⟩)) := (hb 0 (by kernel_rfl)).trans (by rfl)
          refine .inl ⟨wanted_free rfl, fun K hK => ?_⟩
          clear hs hb hx
          go_simp
          exact hK _ _ rfl (Ext.refl _)
        · intro fa fw hx hs hb
          obtain ⟨_, s19, rfl⟩ := hs 0 19 (by kernel_rfl) (by kernel_rfl)
          refine .inl ⟨wanted_free rfl, fun K hK => ?_⟩
          clear hs hb hx
          go_simp
          exact hK _ _ rfl (Ext.refl _)
        · intro fa fw hx hs hb
          obtain ⟨_, s20, rfl⟩ := hs 1 20 (by kernel_rfl) (by kernel_rfl)
          refine .inl ⟨wanted_free rfl, fun K hK => ?_⟩
          clear hs hb hx
          go_simp
          exact hK _ _ rfl (Ext.refl _)
        · intro fa fw hx hs hb
          obtain ⟨_, s21, rfl⟩ := hs 2 21 (by kernel_rfl) (by kernel_rfl)
          have c0 := hx.keeps _ _ B2.out
          refine .inl ⟨wanted_free rfl, fun K hK => ?_⟩
          clear hs hb hx
          go_simp
          exact hK _ _ rfl (Ext.refl _)
        · intro fa fw hx hs hb
          have s9 : fa.tmps[(9 : Nat)]? = some (.int .i64 j) := (hb 9 (by kernel_rfl)).trans (by rfl)
          refine .inl ⟨wanted_free rfl, fun K hK => ?_⟩
          clear hs hb hx
          go_simp
          exact hK _ _ rfl (Ext.refl _)
        · intro fa fw hx hs hb
          have s0 : fa.tmps[(0 : Nat)]? = some (.pointer (some ⟨bb, 0, none⟩)) := (hb 0 (by kernel_rfl)).trans (by rfl)
          refine .inl ⟨wanted_free rfl, fun K hK => ?_⟩
          clear hs hb hx
          go_simp
          exact hK _ _ rfl (Ext.refl _)
        · intro fa fw hx hs hb
          have s0 : fa.tmps[(0 : Nat)]? = some (.pointer (some ⟨bb, 0, none⟩)) := (hb 0 (by kernel_rfl)).trans (by rfl)
          refine .inl ⟨wanted_free rfl, fun K hK => ?_⟩
          clear hs hb hx
          go_simp
          exact hK _ _ rfl (Ext.refl _)
        · intro fa fw hx hs hb
          obtain ⟨_, s25, rfl⟩ := hs 6 25 (by kernel_rfl) (by kernel_rfl)
          refine .inl ⟨wanted_free rfl, fun K hK => ?_⟩
          clear hs hb hx
          go_simp
          exact hK _ _ rfl (Ext.refl _)
        · intro fa fw hx hs hb
          obtain ⟨_, s26, rfl⟩ := hs 7 26 (by kernel_rfl) (by kernel_rfl)
          refine .inl ⟨wanted_free rfl, fun K hK => ?_⟩
          clear hs hb hx
          go_simp
          exact hK _ _ rfl (Ext.refl _)
        · intro fa fw hx hs hb
          obtain ⟨_, s27, rfl⟩ := hs 8 27 (by kernel_rfl) (by kernel_rfl)
          have c0 := hx.keeps _ _ B0.out
          refine .inl ⟨wanted_free rfl, fun K hK => ?_⟩
          clear hs hb hx
          go_simp
          exact hK _ _ rfl (Ext.refl _)
        · intro fa fw hx hs hb
          obtain ⟨_, s28, rfl⟩ := hs 9 28 (by kernel_rfl) (by kernel_rfl)
          refine .inl ⟨wanted_free rfl, fun K hK => ?_⟩
          clear hs hb hx
          go_simp
          exact hK _ _ rfl (Ext.refl _)
        · intro fa fw hx hs hb
          obtain ⟨_, s29, rfl⟩ := hs 10 29 (by kernel_rfl) (by kernel_rfl)
          refine .inl ⟨wanted_free rfl, fun K hK => ?_⟩
          clear hs hb hx
          go_simp
          exact hK _ _ rfl (Ext.refl _)
        · intro fa fw hx hs hb
          obtain ⟨_, s30, rfl⟩ := hs 11 30 (by kernel_rfl) (by kernel_rfl)
          have c0 := hx.keeps _ _ Q1.out
          refine .inl ⟨wanted_free rfl, fun K hK => ?_⟩
          clear hs hb hx
          go_simp
          exact hK _ _ rfl (Ext.refl _)
        · intro fa fw hx hs hb
          have s9 : fa.tmps[(9 : Nat)]? = some (.int .i64 j) := (hb 9 (by kernel_rfl)).trans (by rfl)
          refine .inl ⟨wanted_free rfl, fun K hK => ?_⟩
          clear hs hb hx
          go_simp
          exact hK _ _ rfl (Ext.refl _)
        · intro fa fw hx hs hb
          obtain ⟨_, s31, rfl⟩ := hs 12 31 (by kernel_rfl) (by kernel_rfl)
          obtain ⟨_, s32, rfl⟩ := hs 13 32 (by kernel_rfl) (by kernel_rfl)
          refine .inl ⟨wanted_free rfl, fun K hK => ?_⟩
          clear hs hb hx
          go_simp
          exact hK _ _ rfl (Ext.refl _)
        · intro fa fw hx hs hb
          obtain ⟨_, s33, rfl⟩ := hs 14 33 (by kernel_rfl) (by kernel_rfl)
          have c0 := hx.keeps _ _ K0.out
          have c1 := hx.keeps _ _ K1.out
          have c2 := hx.keeps _ _ K2.out
          refine .inl ⟨wanted_free rfl, fun K hK => ?_⟩
          clear hs hb hx
          go_simp
          exact hK _ _ rfl (Ext.refl _)
        · intro fa fw hx hs hb
          have s1 : fa.tmps[(1 : Nat)]? = some (.slice RB rn pc) := (hb 1 (by kernel_rfl)).trans (by rfl)
          refine .inl ⟨wanted_free rfl, fun K hK => ?_⟩
          clear hs hb hx
          go_simp
          exact hK _ _ rfl (Ext.refl _)
        · intro fa fw hx hs hb
          have s2 : fa.tmps[(2 : Nat)]? = some (.slice IA jn jc) := (hb 2 (by kernel_rfl)).trans (by rfl)
          refine .inl ⟨wanted_free rfl, fun K hK => ?_⟩
          clear hs hb hx
          go_simp
          exact hK _ _ rfl (Ext.refl _)
        · intro fa fw hx hs hb
          obtain ⟨_, s24, rfl⟩ := hs 5 24 (by kernel_rfl) (by kernel_rfl)
          obtain ⟨_, s34, rfl⟩ := hs 15 34 (by kernel_rfl) (by kernel_rfl)
          obtain ⟨_, s35, rfl⟩ := hs 16 35 (by kernel_rfl) (by kernel_rfl)
          obtain ⟨_, s36, rfl⟩ := hs 17 36 (by kernel_rfl) (by kernel_rfl)
          refine .inl ⟨wanted_free rfl, fun K hK => ?_⟩
          clear hs hb
          go_simp
          refine (HOF.out _ hx).mono ?_
          rintro e w' ⟨rfl, xq⟩
          exact hK _ _ rfl xq
      case rest =>
        intro w2 hxw2
        rintro _ rfl
        rintro _ rfl
        rintro _ rfl
        rintro _ rfl
        rintro _ rfl
        rintro _ rfl
        rintro _ rfl
        rintro _ rfl
        rintro _ rfl
        rintro _ rfl
        rintro _ rfl
        rintro _ rfl
        rintro _ rfl
        rintro _ rfl
        rintro _ rfl
        rintro _ rfl
        rintro _ rfl
        rintro _ rfl
        rintro _ rfl
        simp only [putAll, List.take, Act.put, List.setIfInBounds_toArray, List.set_cons_zero, List.set_cons_succ]
        refine wpAny_ready (rs := [19]) (by kernel_rfl) (by simp) (AllReady.cons rfl (fun KK hKK => ?_) AllReady.nil)
        have hv2 := own_ext HBD.out.row hxw2
        obtain ⟨⟨u, hu2, hcv2⟩, hfv2, -⟩ := own_at hv2 hjl
        go_simp
        refine hKK _ _ ?_
        clear hKK KK
        refine wpAny_ready (rs := [20]) (by kernel_rfl) (by simp) (AllReady.cons rfl (fun KK hKK => ?_) AllReady.nil)
        go_simp
        refine hKK _ _ ?_
        clear hKK KK
        refine wpAny_done (by kernel_rfl) ?_ _
        have hv3 := (hv2.stored j (U X)).1
        rw [← List.map_set] at hv3
        have hA3 := (HA.out.more hxw2).set1 j (U X)
        have hb3 := (HBD.out.ext hxw2).aside ((Aside.refl vb vb w2).set1 j (U X)) hv3
        have HV3 := Lib.hid hb3; have HA3 := Lib.hid hA3
        clear hv2 hu2 hcv2 hfv2 hcL hv3 hb3 hA3
        go_wp2
        go_roundw
        case rel => exact ⟨q + 1, vv.set j X, by omega, by go_num, HA3.out, HV3.out, HAL.out⟩
        case measure => simp [intOf]; omega
    · have hql : q = l.length := by omega
      subst hql
      rw [List.drop_length, alongW] at hAL
      subst hAL
      have hwv : Sl wr (some ⟨vb, 0, none⟩) gn (vv.map U) := by obtain ⟨A5, c5, e5, -, -, hsl⟩ := own_sl hbd.row; injection e5 with e5 _ _; rw [e5]; exact hsl
      have hpk : ∀ Q (A5 : Option Addr) (n5 c5 : Nat) (ll : List Int), Ext wr Q → Sl Q A5 n5 (ll.map I) → inR gn ll → n5 ≤ 1000000 → Calls Try.prog 91 #[.pointer (some ⟨bb, 0, none⟩), .slice A5 n5 c5] Q fun e w' => ∃ r, e = .returned r ∧ w'.ownsRow Q.heap.size 55 1 r n5 ((pickW vv ll).map U) ∧ Ext Q w' := fun Q A5 n5 c5 ll hQ hs hin hn =>
        pickW_any bb _ gn gn A5 n5 c5 vv ll Q (hQ.keeps _ _ hbd.c2) (hwv.keep hQ.keeps) hs hin hn
      have hio : inR gn N.outs := by have := HOK.out.outs; rwa [HGL.out] at this
      have hin : inR gn (nextsM N) := by have := HOK.out.nexts; rwa [HGL.out] at this
      have ho3 : on ≤ 3 := by have := HOK.out.ol; have := HOL.out; omega
      have hr20 : rn ≤ 20 := by have := HOK.out.rl; have := HRL.out; omega
      have hbx := HBox.out.keep hx0.keeps
      have NN := Lib.hid (HN.out.keep hx0.keeps)
      have B0 : Hid (wr.cell? ⟨bb, 0, none⟩ = some (.pointer (some ⟨nb, 0, none⟩))) := hbd.c0
      have N0 := Lib.hid hbx.1; have N1 := Lib.hid hbx.2.1; have N2 := Lib.hid hbx.2.2.1; have N3 := Lib.hid hbx.2.2.2
      have PK := Lib.hid hpk; have HIO := Lib.hid hio; have HIN := Lib.hid hin; have HA := Lib.hid has; have HBD := Lib.hid hbd
      have e1 : Hid ((playW N regs ins).1 = pickW vv N.outs) := by unfold Hid; rw [HPQ.out]
      have e2 : Hid ((playW N regs ins).2 = pickW vv (nextsM N)) := by unfold Hid; rw [HPQ.out]
      clear hwv hpk hio hin hbx has hbd hx0 hlt hq HB
      go_wp2_with fail
      refine wp_flow3 20 0 [isV (.pointer (some ⟨bb, 0, none⟩)), isV (.pointer (some ⟨bb, 0, none⟩)), isV (.pointer (some ⟨bb, 0, none⟩)), isV (.pointer (some ⟨bb, 0, none⟩)), isV (.pointer (some ⟨nb, 0, none⟩)), isV (.pointer (some ⟨nb, 0, none⟩)), isV (.pointer (some ⟨nb, 3, none⟩)), isV (.slice OA on oc), fun v w => ∃ A c, v = .slice A on c ∧ w.ownsRow wr.heap.size 55 1 (.slice A on c) on ((pickW vv N.outs).map U), isV (.pointer (some ⟨bb, 0, none⟩)), isV (.pointer (some ⟨bb, 0, none⟩)), isV (.pointer (some ⟨bb, 0, none⟩)), isV (.pointer (some ⟨bb, 0, none⟩)), isV (.pointer (some ⟨nb, 0, none⟩)), isV (.pointer (some ⟨nb, 0, none⟩)), isV (.agg #[I i, .slice GA gn gc, .slice RA rn rc, .slice OA on oc]), fun v w => ∃ A c, v = .slice A rn c ∧ w.ownsRow wr.heap.size 3 1 (.slice A rn c) rn ((nextsM N).map I), fun v w => ∃ A c, v = .slice A rn c ∧ w.ownsRow wr.heap.size 55 1 (.slice A rn c) rn ((pickW vv (nextsM N)).map U), fun v w => ∃ A c, v = .slice A on c ∧ w.ownsRow wr.heap.size 55 1 (.slice A on c) on ((pickW vv N.outs).map U), fun v w => ∃ A c, v = .slice A rn c ∧ w.ownsRow wr.heap.size 55 1 (.slice A rn c) rn ((pickW vv (nextsM N)).map U)] (by kernel_rfl) rfl rfl (by kernel_rfl) (by kernel_rfl) ⟨isV_mono, isV_mono, isV_mono, isV_mono, isV_mono, isV_mono, isV_mono, isV_mono, fun v w w' ⟨A, c, e, h⟩ hx => ⟨A, c, e, own_ext h hx⟩, isV_mono, isV_mono, isV_mono, isV_mono, isV_mono, isV_mono, isV_mono, fun v w w' ⟨A, c, e, h⟩ hx => ⟨A, c, e, own_ext h hx⟩, fun v w w' ⟨A, c, e, h⟩ hx => ⟨A, c, e, own_ext h hx⟩, fun v w w' ⟨A, c, e, h⟩ hx => ⟨A, c, e, own_ext h hx⟩, fun v w w' ⟨A, c, e, h⟩ hx => ⟨A, c, e, own_ext h hx⟩, trivial⟩ ?each ?rest
      case each =>
        refine .cons ?_ (.cons ?_ (.cons ?_ (.cons ?_ (.cons ?_ (.cons ?_ (.cons ?_ (.cons ?_ (.cons ?_ (.cons ?_ (.cons ?_ (.cons ?_ (.cons ?_ (.cons ?_ (.cons ?_ (.cons ?_ (.cons ?_ (.cons ?_ (.cons ?_ (.cons ?_ (.nil))))))))))))))))))))
        · intro fa fw hx hs hb
          have s0 : fa.tmps[(0 : Nat)]? = some (.pointer (some ⟨bb, 0, none⟩)) := (hb 0 (by kernel_rfl)).trans (by rfl)
          refine .inl ⟨wanted_free rfl, fun K hK => ?_⟩
          clear hs hb hx
          go_simp
          exact hK _ _ rfl (Ext.refl _)
        · intro fa fw hx hs hb
          have s0 : fa.tmps[(0 : Nat)]? = some (.pointer (some ⟨bb, 0, none⟩)) := (hb 0 (by kernel_rfl)).trans (by rfl)
          refine .inl ⟨wanted_free rfl, fun K hK => ?_⟩
          clear hs hb hx
          go_simp
          exact hK _ _ rfl (Ext.refl _)
        · intro fa fw hx hs hb
          obtain ⟨_, s41, rfl⟩ := hs 1 41 (by kernel_rfl) (by kernel_rfl)
          refine .inl ⟨wanted_free rfl, fun K hK => ?_⟩
          clear hs hb hx
          go_simp
          exact hK _ _ rfl (Ext.refl _)
        · intro fa fw hx hs hb
          obtain ⟨_, s42, rfl⟩ := hs 2 42 (by kernel_rfl) (by kernel_rfl)
          refine .inl ⟨wanted_free rfl, fun K hK => ?_⟩
          clear hs hb hx
          go_simp
          exact hK _ _ rfl (Ext.refl _)
        · intro fa fw hx hs hb
          obtain ⟨_, s43, rfl⟩ := hs 3 43 (by kernel_rfl) (by kernel_rfl)
          have c0 := hx.keeps _ _ B0.out
          refine .inl ⟨wanted_free rfl, fun K hK => ?_⟩
          clear hs hb hx
          go_simp
          exact hK _ _ rfl (Ext.refl _)
        · intro fa fw hx hs hb
          obtain ⟨_, s44, rfl⟩ := hs 4 44 (by kernel_rfl) (by kernel_rfl)
          refine .inl ⟨wanted_free rfl, fun K hK => ?_⟩
          clear hs hb hx
          go_simp
          exact hK _ _ rfl (Ext.refl _)
        · intro fa fw hx hs hb
          obtain ⟨_, s45, rfl⟩ := hs 5 45 (by kernel_rfl) (by kernel_rfl)
          refine .inl ⟨wanted_free rfl, fun K hK => ?_⟩
          clear hs hb hx
          go_simp
          exact hK _ _ rfl (Ext.refl _)
        · intro fa fw hx hs hb
          obtain ⟨_, s46, rfl⟩ := hs 6 46 (by kernel_rfl) (by kernel_rfl)
          have c0 := hx.keeps _ _ N3.out
          refine .inl ⟨wanted_free rfl, fun K hK => ?_⟩
          clear hs hb hx
          go_simp
          exact hK _ _ rfl (Ext.refl _)
        · intro fa fw hx hs hb
          obtain ⟨_, s40, rfl⟩ := hs 0 40 (by kernel_rfl) (by kernel_rfl)
          obtain ⟨_, s47, rfl⟩ := hs 7 47 (by kernel_rfl) (by kernel_rfl)
          refine .inl ⟨wanted_free rfl, fun K hK => ?_⟩
          clear hs hb
          go_simp
          refine (PK.out fw OA on oc N.outs hx (NN.out.outs.keep hx.keeps) HIO.out (by omega)).mono ?_
          rintro e w' ⟨r0, rfl, ho, xq⟩
          obtain ⟨Aq, cq, rfl, -, -, -⟩ := own_sl ho
          exact hK _ _ ⟨Aq, cq, rfl, own_base ho hx.size⟩ xq
        · intro fa fw hx hs hb
          have s0 : fa.tmps[(0 : Nat)]? = some (.pointer (some ⟨bb, 0, none⟩)) := (hb 0 (by kernel_rfl)).trans (by rfl)
          refine .inl ⟨wanted_free rfl, fun K hK => ?_⟩
          clear hs hb hx
          go_simp
          exact hK _ _ rfl (Ext.refl _)
        · intro fa fw hx hs hb
          have s0 : fa.tmps[(0 : Nat)]? = some (.pointer (some ⟨bb, 0, none⟩)) := (hb 0 (by kernel_rfl)).trans (by rfl)
          refine .inl ⟨wanted_free rfl, fun K hK => ?_⟩
          clear hs hb hx
          go_simp
          exact hK _ _ rfl (Ext.refl _)
        · intro fa fw hx hs hb
          obtain ⟨_, s50, rfl⟩ := hs 10 50 (by kernel_rfl) (by kernel_rfl)
          refine .inl ⟨wanted_free rfl, fun K hK => ?_⟩
          clear hs hb hx
          go_simp
          exact hK _ _ rfl (Ext.refl _)
        · intro fa fw hx hs hb
          obtain ⟨_, s51, rfl⟩ := hs 11 51 (by kernel_rfl) (by kernel_rfl)
          refine .inl ⟨wanted_free rfl, fun K hK => ?_⟩
          clear hs hb hx
          go_simp
          exact hK _ _ rfl (Ext.refl _)
        · intro fa fw hx hs hb
          obtain ⟨_, s52, rfl⟩ := hs 12 52 (by kernel_rfl) (by kernel_rfl)
          have c0 := hx.keeps _ _ B0.out
          refine .inl ⟨wanted_free rfl, fun K hK => ?_⟩
          clear hs hb hx
          go_simp
          exact hK _ _ rfl (Ext.refl _)
        · intro fa fw hx hs hb
          obtain ⟨_, s53, rfl⟩ := hs 13 53 (by kernel_rfl) (by kernel_rfl)
          refine .inl ⟨wanted_free rfl, fun K hK => ?_⟩
          clear hs hb hx
          go_simp
          exact hK _ _ rfl (Ext.refl _)
        · intro fa fw hx hs hb
          obtain ⟨_, s54, rfl⟩ := hs 14 54 (by kernel_rfl) (by kernel_rfl)
          have c0 := hx.keeps _ _ N0.out
          have c1 := hx.keeps _ _ N1.out
          have c2 := hx.keeps _ _ N2.out
          have c3 := hx.keeps _ _ N3.out
          refine .inl ⟨wanted_free rfl, fun K hK => ?_⟩
          clear hs hb hx
          go_simp
          exact hK _ _ rfl (Ext.refl _)
        · intro fa fw hx hs hb
          obtain ⟨_, s55, rfl⟩ := hs 15 55 (by kernel_rfl) (by kernel_rfl)
          refine .inl ⟨wanted_free rfl, fun K hK => ?_⟩
          clear hs hb
          go_simp
          refine (nexts_any i GA gn gc RA rn rc OA on oc N fw (NN.out.keep hx.keeps) hr20).mono ?_
          rintro e w' ⟨r0, rfl, ho, xq⟩
          obtain ⟨Aq, cq, rfl, -, -, -⟩ := own_sl ho
          exact hK _ _ ⟨Aq, cq, rfl, own_base ho hx.size⟩ xq
        · intro fa fw hx hs hb
          obtain ⟨_, s49, rfl⟩ := hs 9 49 (by kernel_rfl) (by kernel_rfl)
          obtain ⟨_, s56, A56, c56, rfl, q56⟩ := hs 16 56 (by kernel_rfl) (by kernel_rfl)
          refine .inl ⟨wanted_free rfl, fun K hK => ?_⟩
          clear hs hb
          obtain ⟨Ar, cr, er, -, hcm, hsr⟩ := own_sl q56
          injection er with er _ ec
          subst er; subst ec
          go_simp
          refine (PK.out fw A56 rn c56 (nextsM N) hx hsr HIN.out (by omega)).mono ?_
          rintro e w' ⟨r0, rfl, ho, xq⟩
          obtain ⟨Aq, cq, rfl, -, -, -⟩ := own_sl ho
          exact hK _ _ ⟨Aq, cq, rfl, own_base ho hx.size⟩ xq
        · intro fa fw hx hs hb
          obtain ⟨_, s48, A48, c48, rfl, q48⟩ := hs 8 48 (by kernel_rfl) (by kernel_rfl)
          refine .inl ⟨wanted_free rfl, fun K hK => ?_⟩
          clear hs hb
          go_simp
          exact hK _ _ ⟨A48, c48, rfl, q48⟩ (Ext.refl _)
        · intro fa fw hx hs hb
          obtain ⟨_, s57, A57, c57, rfl, q57⟩ := hs 17 57 (by kernel_rfl) (by kernel_rfl)
          refine .inl ⟨wanted_free rfl, fun K hK => ?_⟩
          clear hs hb
          go_simp
          exact hK _ _ ⟨A57, c57, rfl, q57⟩ (Ext.refl _)
      case rest =>
        intro w2 hxw2
        rintro _ rfl
        rintro _ rfl
        rintro _ rfl
        rintro _ rfl
        rintro _ rfl
        rintro _ rfl
        rintro _ rfl
        rintro _ rfl
        rintro _ ⟨A48, c48, rfl, q48⟩
        rintro _ rfl
        rintro _ rfl
        rintro _ rfl
        rintro _ rfl
        rintro _ rfl
        rintro _ rfl
        rintro _ rfl
        rintro _ ⟨A56, c56, rfl, q56⟩
        rintro _ ⟨A57, c57, rfl, q57⟩
        rintro _ ⟨A6, c6, rfl, q6⟩
        rintro _ ⟨A7, c7, rfl, q7⟩
        simp only [putAll, List.take, Act.put, List.setIfInBounds_toArray, List.set_cons_zero, List.set_cons_succ]
        refine wpAny_done (by kernel_rfl) ?_ _
        go_wp2
        refine bodyPost_ret (v := Pr (.slice A6 on c6) (.slice A7 rn c7)) (by simp [results, Try.results63, go_sem]) rfl ⟨_, _, vv, rfl, ?_, ?_, HBD.out.ext hxw2, HA.out.more hxw2⟩
        · rw [e1.out]; exact own_base q6 HA.out.size
        · rw [e2.out]; exact own_base q7 HA.out.size
end
end Go.Proofs.Ytlafiddfplhafaa
