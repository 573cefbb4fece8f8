/- Many instants: Run, by the program and by the reference. -/
import Derived.Test.YtlafiddfplhafaaFa18
import Derived.Test.YtlafiddfplhafaaFa10
import Derived.Test.YtlafiddfplhafaaFa04
import Derived.Test.YtlafiddfplhafaaFa02
import Derived.RegionTactic
import Derived.Deep.RegionHeld3
import Derived.Test.YtlafiddfplhafaaFa08
import Derived.Test.YtlafiddfplhafaaFa09
import Derived.Test.YtlafiddfplhafaaFa01
namespace Go.Proofs.Ytlafiddfplhafaa
set_option linter.unusedVariables false
set_option linter.unusedSimpArgs false
set_option linter.unusedVariables false
set_option linter.unusedSimpArgs false
open Go.RowKit
set_option maxRecDepth 100000 in
set_option maxHeartbeats 4000000 in
theorem timesError_any (A : Option Addr) (n c : Nat) (l : List Int) (k : Nat) (w : World) (h : Sl w A n (l.map I)) (hn : n ≤ maxLen) (hk : k ≤ 3) :
    Calls Try.prog 28 #[.slice A n c, I k] w fun e w' => e = .returned (I (timesM l k)) ∧ Ext w w' := by
  have hln := h.len
  generalize hM : timesM l k = M
  unfold timesM at hM
  rw [hln] at hM
  have HS := Lib.hid h
  unfold maxLen at hn
  have hpw := fun Q => power_any Q k (by omega)
  have hp1 : ((2 ^ k : Nat) : Int) = (2 : Int) ^ k := by
    have : k = 0 ∨ k = 1 ∨ k = 2 ∨ k = 3 := by omega
    rcases this with rfl | rfl | rfl | rfl <;> rfl
  have hp2 : 1 ≤ ((2 ^ k : Nat) : Int) ∧ ((2 ^ k : Nat) : Int) ≤ 8 := by
    have : k = 0 ∨ k = 1 ∨ k = 2 ∨ k = 3 := by omega
    rcases this with rfl | rfl | rfl | rfl <;> decide
  have hbt : ∀ x, badTime k x = (decide (x < 0) || decide (((2 ^ k : Nat) : Int) ≤ x)) := fun x => by unfold badTime; rw [hp1]
  clear h hln hp1
  generalize ((2 ^ k : Nat) : Int) = P at *
  have w0 : IntKind.i64.wrap (P - 1) = P - 1 := IntWalk.i64_in _ (by omega)
  have W0 := Lib.hid w0; have PW := Lib.hid hpw; have HBT := Lib.hid hbt
  clear w0 hpw hbt
  by_cases h1 : 60 < n
  · rw [if_pos h1] at hM
    have HM := Lib.hid hM; clear hM
    go_enter Try.func28, Try.ntmps28
    go_wp2
    go_ret
    exact ⟨ret_int HM.out, Ext.refl _⟩
  · rw [if_neg h1] at hM
    have HM := Lib.hid hM; clear hM
    go_enter Try.func28, Try.ntmps28
    go_wp2_with fail
    go_loopw [5] (fun i wr => ∃ j : Nat, j ≤ n ∧ i = .int .i64 j ∧ Ext w wr ∧ (l.drop j).any (badTime k) = l.any (badTime k)) (fun i _ => n - (intOf i).toNat)
    case atStart => exact ⟨0, Nat.zero_le _, rfl, Ext.refl _, rfl⟩
    case round =>
      obtain ⟨j, hj, rfl, hext, hR⟩ := hrel
      by_cases hlt : j < n
      · obtain ⟨b, off, x, rfl, hc0, hd⟩ := HS.out.next hlt
        have CX := Lib.hid (hext.keeps _ _ hc0)
        rw [hd, List.any_cons] at hR
        have HE := Lib.hid hext
        cases hb : badTime k x
        · rw [hb] at hR
          have HR := Lib.hid hR
          have HWn : Hid ((decide (0 ≤ x) && decide (x ≤ P - 1)) = true) := by unfold Hid; rw [HBT.out] at hb; simp at hb; simp; omega
          clear hR hc0 hd hext hb
          go_wp2_with fail
          refine wp_flow3 9 0 [isV (.slice (some ⟨b, off, none⟩) n c), isV (.int .i64 j), isV (.pointer (some ⟨b, off + j, none⟩)), isV (.int .i64 x), isV (.int .i64 k), isV (.int .i64 P), isV (.int .i64 (P - 1)), isV (.bool true), isV (.bool false)] (by kernel_rfl) rfl rfl (by kernel_rfl) (by kernel_rfl) ⟨isV_mono, isV_mono, isV_mono, isV_mono, isV_mono, isV_mono, isV_mono, isV_mono, isV_mono, trivial⟩ ?each ?rest
          case each =>
            refine .cons ?_ (.cons ?_ (.cons ?_ (.cons ?_ (.cons ?_ (.cons ?_ (.cons ?_ (.cons ?_ (.cons ?_ (.nil)))))))))
            · intro fa fw hx hs hb
              have s0 : fa.tmps[(0 : Nat)]? = some (.slice (some ⟨b, off, none⟩) n c) := (hb 0 (by kernel_rfl)).trans (by rfl)
              refine .inl ⟨wanted_free rfl, fun K hK => ?_⟩
              clear hs hb hx
              go_simp
              exact hK _ _ rfl (Ext.refl _)
            · intro fa fw hx hs hb
              have s5 : fa.tmps[(5 : Nat)]? = some (.int .i64 j) := (hb 5 (by kernel_rfl)).trans (by rfl)
              refine .inl ⟨wanted_free rfl, fun K hK => ?_⟩
              clear hs hb hx
              go_simp
              exact hK _ _ rfl (Ext.refl _)
            · intro fa fw hx hs hb
              obtain ⟨_, s15, rfl⟩ := hs 0 15 (by kernel_rfl) (by kernel_rfl)
              obtain ⟨_, s16, rfl⟩ := hs 1 16 (by kernel_rfl) (by kernel_rfl)
              refine .inl ⟨wanted_free rfl, fun K hK => ?_⟩
              clear hs hb hx
              go_simp
              exact hK _ _ rfl (Ext.refl _)
            · intro fa fw hx hs hb
              obtain ⟨_, s17, rfl⟩ := hs 2 17 (by kernel_rfl) (by kernel_rfl)
              have c0 := hx.keeps _ _ CX.out
              refine .inl ⟨wanted_free rfl, fun K hK => ?_⟩
              clear hs hb hx
              go_simp
              exact hK _ _ rfl (Ext.refl _)
            · intro fa fw hx hs hb
              have s1 : fa.tmps[(1 : Nat)]? = some (.int .i64 k) := (hb 1 (by kernel_rfl)).trans (by rfl)
              refine .inl ⟨wanted_free rfl, fun K hK => ?_⟩
              clear hs hb hx
              go_simp
              exact hK _ _ rfl (Ext.refl _)
            · intro fa fw hx hs hb
              obtain ⟨_, s19, rfl⟩ := hs 4 19 (by kernel_rfl) (by kernel_rfl)
              refine .inl ⟨wanted_free rfl, fun K hK => ?_⟩
              clear hs hb
              go_simp
              refine (PW.out fw).mono ?_
              rintro e w' ⟨rfl, rfl⟩
              exact hK _ _ rfl (Ext.refl _)
            · intro fa fw hx hs hb
              obtain ⟨_, s20, rfl⟩ := hs 5 20 (by kernel_rfl) (by kernel_rfl)
              refine .inl ⟨wanted_free rfl, fun K hK => ?_⟩
              clear hs hb
              have w0 := W0.out
              go_simp
              exact hK _ _ rfl (Ext.refl _)
            · intro fa fw hx hs hb
              obtain ⟨_, s18, rfl⟩ := hs 3 18 (by kernel_rfl) (by kernel_rfl)
              obtain ⟨_, s21, rfl⟩ := hs 6 21 (by kernel_rfl) (by kernel_rfl)
              refine .inl ⟨wanted_free rfl, fun K hK => ?_⟩
              clear hs hb
              go_simp
              refine (within_any' x 0 (P - 1) fw).mono ?_
              rintro e w' ⟨rfl, rfl⟩; rw [HWn.out]
              exact hK _ _ rfl (Ext.refl _)
            · intro fa fw hx hs hb
              obtain ⟨_, s22, rfl⟩ := hs 7 22 (by kernel_rfl) (by kernel_rfl)
              refine .inl ⟨wanted_free rfl, fun K hK => ?_⟩
              clear hs hb hx
              go_simp
              exact hK _ _ rfl (Ext.refl _)
          case rest =>
            intro w2 hxw2
            rintro _ rfl
            rintro _ rfl
            rintro _ rfl
            rintro _ rfl
            rintro _ rfl
            rintro _ rfl
            rintro _ rfl
            rintro _ rfl
            rintro _ rfl
            simp only [putAll, List.take, Act.put, List.setIfInBounds_toArray, List.set_cons_zero, List.set_cons_succ]
            refine wpAny_done (by kernel_rfl) ?_ _
            go_wp2
            go_roundw
            case rel => exact ⟨j + 1, by omega, by go_num, HE.out.trans hxw2, by rw [← HR.out]; simp⟩
            case measure => simp [intOf]; omega
        · rw [hb] at hR
          have HR := Lib.hid hR
          have HWn : Hid ((decide (0 ≤ x) && decide (x ≤ P - 1)) = false) := by unfold Hid; rw [HBT.out] at hb; simp at hb; simp; omega
          clear hR hc0 hd hext hb
          go_wp2_with fail
          refine wp_flow3 9 0 [isV (.slice (some ⟨b, off, none⟩) n c), isV (.int .i64 j), isV (.pointer (some ⟨b, off + j, none⟩)), isV (.int .i64 x), isV (.int .i64 k), isV (.int .i64 P), isV (.int .i64 (P - 1)), isV (.bool false), isV (.bool true)] (by kernel_rfl) rfl rfl (by kernel_rfl) (by kernel_rfl) ⟨isV_mono, isV_mono, isV_mono, isV_mono, isV_mono, isV_mono, isV_mono, isV_mono, isV_mono, trivial⟩ ?each ?rest
          case each =>
            refine .cons ?_ (.cons ?_ (.cons ?_ (.cons ?_ (.cons ?_ (.cons ?_ (.cons ?_ (.cons ?_ (.cons ?_ (.nil)))))))))
            · intro fa fw hx hs hb
              have s0 : fa.tmps[(0 : Nat)]? = some (.slice (some ⟨b, off, none⟩) n c) := (hb 0 (by kernel_rfl)).trans (by rfl)
              refine .inl ⟨wanted_free rfl, fun K hK => ?_⟩
              clear hs hb hx
              go_simp
              exact hK _ _ rfl (Ext.refl _)
            · intro fa fw hx hs hb
              have s5 : fa.tmps[(5 : Nat)]? = some (.int .i64 j) := (hb 5 (by kernel_rfl)).trans (by rfl)
              refine .inl ⟨wanted_free rfl, fun K hK => ?_⟩
              clear hs hb hx
              go_simp
              exact hK _ _ rfl (Ext.refl _)
            · intro fa fw hx hs hb
              obtain ⟨_, s15, rfl⟩ := hs 0 15 (by kernel_rfl) (by kernel_rfl)
              obtain ⟨_, s16, rfl⟩ := hs 1 16 (by kernel_rfl) (by kernel_rfl)
              refine .inl ⟨wanted_free rfl, fun K hK => ?_⟩
              clear hs hb hx
              go_simp
              exact hK _ _ rfl (Ext.refl _)
            · intro fa fw hx hs hb
              obtain ⟨_, s17, rfl⟩ := hs 2 17 (by kernel_rfl) (by kernel_rfl)
              have c0 := hx.keeps _ _ CX.out
              refine .inl ⟨wanted_free rfl, fun K hK => ?_⟩
              clear hs hb hx
              go_simp
              exact hK _ _ rfl (Ext.refl _)
            · intro fa fw hx hs hb
              have s1 : fa.tmps[(1 : Nat)]? = some (.int .i64 k) := (hb 1 (by kernel_rfl)).trans (by rfl)
              refine .inl ⟨wanted_free rfl, fun K hK => ?_⟩
              clear hs hb hx
              go_simp
              exact hK _ _ rfl (Ext.refl _)
            · intro fa fw hx hs hb
              obtain ⟨_, s19, rfl⟩ := hs 4 19 (by kernel_rfl) (by kernel_rfl)
              refine .inl ⟨wanted_free rfl, fun K hK => ?_⟩
              clear hs hb
              go_simp
              refine (PW.out fw).mono ?_
              rintro e w' ⟨rfl, rfl⟩
              exact hK _ _ rfl (Ext.refl _)
            · intro fa fw hx hs hb
              obtain ⟨_, s20, rfl⟩ := hs 5 20 (by kernel_rfl) (by kernel_rfl)
              refine .inl ⟨wanted_free rfl, fun K hK => ?_⟩
              clear hs hb
              have w0 := W0.out
              go_simp
              exact hK _ _ rfl (Ext.refl _)
            · intro fa fw hx hs hb
              obtain ⟨_, s18, rfl⟩ := hs 3 18 (by kernel_rfl) (by kernel_rfl)
              obtain ⟨_, s21, rfl⟩ := hs 6 21 (by kernel_rfl) (by kernel_rfl)
              refine .inl ⟨wanted_free rfl, fun K hK => ?_⟩
              clear hs hb
              go_simp
              refine (within_any' x 0 (P - 1) fw).mono ?_
              rintro e w' ⟨rfl, rfl⟩; rw [HWn.out]
              exact hK _ _ rfl (Ext.refl _)
            · intro fa fw hx hs hb
              obtain ⟨_, s22, rfl⟩ := hs 7 22 (by kernel_rfl) (by kernel_rfl)
              refine .inl ⟨wanted_free rfl, fun K hK => ?_⟩
              clear hs hb hx
              go_simp
              exact hK _ _ rfl (Ext.refl _)
          case rest =>
            intro w2 hxw2
            rintro _ rfl
            rintro _ rfl
            rintro _ rfl
            rintro _ rfl
            rintro _ rfl
            rintro _ rfl
            rintro _ rfl
            rintro _ rfl
            rintro _ rfl
            simp only [putAll, List.take, Act.put, List.setIfInBounds_toArray, List.set_cons_zero, List.set_cons_succ]
            refine wpAny_done (by kernel_rfl) ?_ _
            go_wp2
            go_ret
            exact ⟨ret_int (by rw [← HM.out, ← HR.out]; rfl), HE.out.trans hxw2⟩
      · rw [HS.out.drop_end hlt] at hR
        have HR := Lib.hid hR; clear hR
        go_wp2
        go_ret
        exact ⟨ret_int (by rw [← HM.out, ← HR.out]; rfl), hext⟩
structure RunSt (N : NetM) (l : List Int) (k : Nat) (r : List Int) (rows : List (List Int)) : Prop where
  eqn : runFrom N (firstM N) l = (runFrom N r (l.drop k)).map fun q => (rows ++ q.1, q.2)
  good : ∀ x ∈ r, x = 0 ∨ x = 1
  len : r.length = N.regs.length
  rl : rows.length = k
theorem RunSt.start (N : NetM) (l : List Int) : RunSt N l 0 (firstM N) [] := ⟨by simp, first_good N, by simp [firstM], rfl⟩
theorem RunSt.next {N : NetM} {l : List Int} {k : Nat} {r : List Int} {rows : List (List Int)} (h : RunSt N l k r rows) {x : Int} (hx : l[k]? = some x) {o : List Int × List Int} (ht : turnN N r (bitsM x N.ins.toNat) = some o) : RunSt N l (k + 1) o.2 (rows ++ [o.1]) := by
  have hk := (List.getElem?_eq_some_iff.1 hx).1
  have hd : l.drop k = x :: l.drop (k + 1) := by
    rw [List.drop_eq_getElem_cons hk]; congr 1; rw [List.getElem?_eq_getElem hk] at hx; injection hx
  refine ⟨?_, (turnN_good (good01 h.good).1 (good01 (bits_good _ _)).1 ht).2, (turnN_len ht).2, by simp [h.rl]⟩
  rw [h.eqn, hd, runFrom, ht]
  simp only [Option.bind_some]
  cases runFrom N o.2 (l.drop (k + 1)) <;> simp
theorem RunSt.stop {N : NetM} {l : List Int} {k : Nat} {r : List Int} {rows : List (List Int)} (h : RunSt N l k r rows) {x : Int} (hx : l[k]? = some x) (ht : turnN N r (bitsM x N.ins.toNat) = none) : runFrom N (firstM N) l = none := by
  have hk := (List.getElem?_eq_some_iff.1 hx).1
  have hd : l.drop k = x :: l.drop (k + 1) := by
    rw [List.drop_eq_getElem_cons hk]; congr 1; rw [List.getElem?_eq_getElem hk] at hx; injection hx
  rw [h.eqn, hd, runFrom, ht]; rfl
theorem RunSt.done {N : NetM} {l : List Int} {r : List Int} {rows : List (List Int)} (h : RunSt N l l.length r rows) : runFrom N (firstM N) l = some (rows, r) := by
  rw [h.eqn, List.drop_length, runFrom]; simp
theorem RunSt.asked {N : NetM} {l : List Int} {k : Nat} {r : List Int} {rows : List (List Int)} (h : RunSt N l k r rows) (hc : checkN N = 0) (x : Int) : askedM N r (bitsM x N.ins.toNat) = 0 := by
  have ok := checkN_ok hc
  unfold askedM
  rw [if_neg (by simp [hc]), if_neg (by rw [bits_len]; have := ok.ins0; have := h.len; omega), goodL_any (good01 h.good).1, goodL_any (good01 (bits_good x _)).1]
  simp
theorem timesM_ok {l : List Int} {m : Nat} (h : timesM l m = 0) (hm : m ≤ 3) : l.length ≤ 60 ∧ ∀ x ∈ l, 0 ≤ x ∧ x < 8 := by
  unfold timesM at h
  split at h
  · cases h
  rename_i h1
  cases hb : l.any (badTime m) with
  | true => rw [hb] at h; simp at h
  | false =>
    refine ⟨by omega, fun x hx => ?_⟩
    have := List.any_eq_false.1 hb x hx
    have hp : (2 : Int) ^ m ≤ 8 := by
      have : m = 0 ∨ m = 1 ∨ m = 2 ∨ m = 3 := by omega
      rcases this with rfl | rfl | rfl | rfl <;> decide
    simp [badTime] at this
    omega
/-- What Run tells: rows, registers, error. -/
def RunE (w w' : World) (e : Ending) (x : Int) (q : List (List Int) × List Int) : Prop :=
  ∃ vr vg vs, e = .returned (Pr3 vr vg (I x)) ∧ OwnRows 23 3 w' w.heap.size vr q.1 vs ∧ w'.ownsRow w.heap.size 3 1 vg q.2.length (q.2.map I) ∧ Ext w w'
set_option maxRecDepth 100000 in
set_option maxHeartbeats 8000000 in
theorem run_any (i : Int) (GA : Option Addr) (gn gc : Nat) (RA : Option Addr) (rn rc : Nat) (OA : Option Addr) (on oc : Nat) (N : NetM) (A : Option Addr) (n c : Nat) (l : List Int) (w : World)
    (h : NetC w i GA gn gc RA rn rc OA on oc N) (hl : Sl w A n (l.map I)) (hn : n ≤ maxLen) :
    Calls Try.prog 16 #[netV i GA gn gc RA rn rc OA on oc, .slice A n c] w fun e w' => RunE w w' e (runE N l) (runV N l) := by
  obtain ⟨W, hW⟩ : ∃ W, W = w.alloc (.cells #[I i, .slice GA gn gc, .slice RA rn rc, .slice OA on oc] 39) := ⟨_, rfl⟩
  have hxW : Ext w W := by rw [hW]; exact (Ext.refl _).alloc _
  have hbox : NetBox W w.heap.size i GA gn gc RA rn rc OA on oc := by rw [hW]; exact NetBox.new w i GA gn gc RA rn rc OA on oc _
  have HN := Lib.hid (h.keep hxW.keeps); have HBox := Lib.hid hbox; have HW := Lib.hid hW; have HX := Lib.hid hxW
  have HL := Lib.hid (hl.keep hxW.keeps); have HNM := Lib.hid hn
  have hins := h.ins; have hrl : N.regs.length = rn := h.regs.1; have hol : N.outs.length = on := h.outs.len
  have hln := hl.len
  clear h hl hW hxW hbox
  by_cases hc : checkN N = 0
  · have ok := checkN_ok hc
    obtain ⟨m, rfl⟩ : ∃ m : Nat, i = m := ⟨i.toNat, by have := ok.ins0; omega⟩
    have hm : N.ins.toNat = m := by omega
    have hm3 : m ≤ 3 := by have := ok.ins3; omega
    have hr20 : rn ≤ 20 := by have := ok.rl; omega
    have HINS := Lib.hid hins; have HC := Lib.hid hc; have HOK := Lib.hid ok; have HMI := Lib.hid hm
    clear hc ok hins
    by_cases ht : timesM l m = 0
    · obtain ⟨hl60, hlx⟩ := timesM_ok ht hm3
      have HT := Lib.hid ht; have HLX := Lib.hid hlx
      clear ht hlx
      go_enter Try.func16, Try.ntmps16
      go_wp2_with fail
      rw [← HW.out]
      refine (netCheck_any _ GA gn gc RA rn rc OA on oc N W HN.out).mono ?_; rintro e w1 ⟨rfl, x1⟩; rw [HC.out]
      obtain ⟨q0, q1, q2, q3⟩ := HBox.out.keep x1.keeps
      have X1 := Lib.hid x1; clear x1
      go_wp2_with fail
      refine (times_any A n c l m w1 (HL.out.keep X1.out.keeps) HNM.out hm3).mono ?_; rintro e w2 ⟨rfl, x2⟩; rw [HT.out]
      have X2 := Lib.hid (X1.out.trans x2); clear x2 q0 q1 q2 q3
      obtain ⟨q0, q1, q2, q3⟩ := HBox.out.keep X2.out.keeps
      go_wp2_with fail
      refine (first_any m GA gn gc RA rn rc OA on oc N w2 (HN.out.keep X2.out.keeps) hr20).mono ?_; rintro e w3 ⟨v3, rfl, hown3, x3⟩
      have hown3 := own_base hown3 X2.out.size
      have HO3 := Lib.hid hown3; have X3 := Lib.hid (X2.out.trans x3); clear hown3 x3 q0 q1 q2 q3
      have HST := Lib.hid (RunSt.start N l)
      go_wp2_with fail
      go_loopw [9, 10, 32] (fun sr sa j wr => ∃ (k : Nat) (r : List Int) (rows : List (List Int)) (vs : List Value), k ≤ n ∧ j = .int .i64 k ∧ Ext W wr ∧ wr.ownsRow W.heap.size 3 1 sr rn (r.map I) ∧ OwnRows 23 3 wr W.heap.size sa rows vs ∧ RunSt N l k r rows) (fun _ _ j _ => n - (intOf j).toNat)
      case atStart => exact ⟨0, firstM N, [], [], Nat.zero_le _, rfl, X3.out, HO3.out, OwnRows.nil _ _ _ _, HST.out⟩
      case round =>
        obtain ⟨k, r, rows, vs, hk, rfl, hext, hreg, hrows, hst⟩ := hrel
        by_cases hlt : k < n
        · obtain ⟨b, off, x, rfl, hc0, hx⟩ := HL.out.at_ hlt
          have hcx := hext.keeps _ _ hc0
          obtain ⟨hx0, hx8⟩ := HLX.out x (List.mem_of_getElem? hx)
          obtain ⟨A9, c9, rfl, -, -, hs9⟩ := own_sl hreg
          have hbx := HBox.out.keep hext.keeps
          have B0 : Hid (wr.cell? ⟨w.heap.size, 0, none⟩ = some (I m)) := hbx.1
          have B1 : Hid (wr.cell? ⟨w.heap.size, 1, none⟩ = some (.slice GA gn gc)) := hbx.2.1
          have B2 : Hid (wr.cell? ⟨w.heap.size, 2, none⟩ = some (.slice RA rn rc)) := hbx.2.2.1
          have B3 : Hid (wr.cell? ⟨w.heap.size, 3, none⟩ = some (.slice OA on oc)) := hbx.2.2.2
          have hask := hst.asked HC.out x
          have ak := askedM_ok hask
          rw [HMI.out] at hask ak
          have NN := HN.out.keep hext.keeps
          have bt : ∀ Q, Calls Try.prog 45 #[I x, I m] Q fun e w' => ∃ v, e = .returned v ∧ w'.ownsRow Q.heap.size 3 1 v m ((bitsM x m).map I) ∧ Ext Q w' := fun Q => bits_any x m Q hx0 hx8 hm3
          have BT := Lib.hid bt
          have hlenr : rows.length = k := hst.rl
          have HE := Lib.hid hext; have HREG := Lib.hid hreg; have HROWS := Lib.hid hrows; have HSTT := Lib.hid hst; have HXX := Lib.hid hx
          cases htn : turnN N r (bitsM x m) with
          | none =>
            have hstop := hst.stop hx (by rw [HMI.out]; exact htn)
            have tn : ∀ Q (Ab : Option Addr) (cb : Nat), Ext wr Q → Sl Q Ab m ((bitsM x m).map I) → Calls Try.prog 44 #[netV m GA gn gc RA rn rc OA on oc, .slice A9 rn c9, .slice Ab m cb] Q fun e w' => ∃ vo vn, e = .returned (Pr3 vo vn (Bv false)) ∧ Ext Q w' := fun Q Ab cb hQ hsb => by
              refine (turn_net_any m GA gn gc RA rn rc OA on oc N A9 rn c9 Ab m cb r (bitsM x m) Q (NN.keep hQ.keeps) (hs9.keep hQ.keeps) hsb ak).mono fun e w' ⟨vo, vn, he, ho⟩ => ⟨vo, vn, ?_, ho.2.2⟩
              rw [he, htn]; rfl
            have TN := Lib.hid tn
            have HRE : Hid (runE N l = 6) := by unfold Hid runE; rw [if_neg (by simp [HC.out]), HMI.out, if_neg (by simp [HT.out]), hstop]; rfl
            have HRV : Hid (runV N l = ([], [])) := by unfold Hid runV; rw [HRE.out]; rfl
            have CX := Lib.hid hcx
            clear hstop tn htn ak NN hs9 hask bt hbx hreg hrows hst hext hx hx0 hx8 hc0
            go_wp2_with fail
            refine wp_flow3 14 0 [isV (.agg #[.int .i64 m, .slice GA gn gc, .slice RA rn rc, .slice OA on oc]), isV (.slice A9 rn c9), isV (.int .i64 x), isV (.pointer (some ⟨w.heap.size, 0, none⟩)), isV (.int .i64 m), fun v w => ∃ A c, v = .slice A m c ∧ w.ownsRow wr.heap.size 3 1 (.slice A m c) m ((bitsM x m).map I), fun v _ => ∃ A B : Value, v = .tuple #[A, B, .bool false], fun v _ => ∃ A B : Value, v = .tuple #[A, B, .bool false], fun _ _ => True, fun _ _ => True, isV (.bool false), fun _ _ => True, fun _ _ => True, isV (.bool false)] (by kernel_rfl) rfl rfl (by kernel_rfl) (by kernel_rfl) ⟨isV_mono, isV_mono, isV_mono, isV_mono, isV_mono, fun v w w' ⟨A, c, e, h⟩ hx => ⟨A, c, e, own_ext h hx⟩, fun v w w' h hx => h, fun v w w' h hx => h, fun v w w' h hx => trivial, fun v w w' h hx => trivial, isV_mono, fun v w w' h hx => trivial, fun v w w' h hx => trivial, isV_mono, trivial⟩ ?each ?rest
            case each =>
              refine .cons ?_ (.cons ?_ (.cons ?_ (.cons ?_ (.cons ?_ (.cons ?_ (.cons ?_ (.cons ?_ (.cons ?_ (.cons ?_ (.cons ?_ (.cons ?_ (.cons ?_ (.cons ?_ (.nil))))))))))))))
              · intro fa fw hx hs hb
                have s2 : fa.tmps[(2 : Nat)]? = some (.pointer (some ⟨w.heap.size, 0, none⟩)) := (hb 2 (by kernel_rfl)).trans (by rfl)
                have c0 := hx.keeps _ _ B0.out
                have c1 := hx.keeps _ _ B1.out
                have c2 := hx.keeps _ _ B2.out
                have c3 := hx.keeps _ _ B3.out
                refine .inl ⟨wanted_free rfl, fun K hK => ?_⟩
                clear hs hb hx
                go_simp
                exact hK _ _ rfl (Ext.refl _)
              · intro fa fw hx hs hb
                have s9 : fa.tmps[(9 : Nat)]? = some (.slice A9 rn c9) := (hb 9 (by kernel_rfl)).trans (by rfl)
                refine .inl ⟨wanted_free rfl, fun K hK => ?_⟩
                clear hs hb hx
                go_simp
                exact hK _ _ rfl (Ext.refl _)
              · intro fa fw hx hs hb
                have s12 : fa.tmps[(12 : Nat)]? = some (.int .i64 x) := (hb 12 (by kernel_rfl)).trans (by rfl)
                refine .inl ⟨wanted_free rfl, fun K hK => ?_⟩
                clear hs hb hx
                go_simp
                exact hK _ _ rfl (Ext.refl _)
              · intro fa fw hx hs hb
                have s2 : fa.tmps[(2 : Nat)]? = some (.pointer (some ⟨w.heap.size, 0, none⟩)) := (hb 2 (by kernel_rfl)).trans (by rfl)
                refine .inl ⟨wanted_free rfl, fun K hK => ?_⟩
                clear hs hb hx
                go_simp
                exact hK _ _ rfl (Ext.refl _)
              · intro fa fw hx hs hb
                obtain ⟨_, s40, rfl⟩ := hs 3 40 (by kernel_rfl) (by kernel_rfl)
                have c0 := hx.keeps _ _ B0.out
                refine .inl ⟨wanted_free rfl, fun K hK => ?_⟩
                clear hs hb hx
                go_simp
                exact hK _ _ rfl (Ext.refl _)
              · intro fa fw hx hs hb
                obtain ⟨_, s39, rfl⟩ := hs 2 39 (by kernel_rfl) (by kernel_rfl)
                obtain ⟨_, s41, rfl⟩ := hs 4 41 (by kernel_rfl) (by kernel_rfl)
                refine .inl ⟨wanted_free rfl, fun K hK => ?_⟩
                clear hs hb
                go_simp
                refine (BT.out fw).mono ?_
                rintro e w' ⟨r0, rfl, ho, xq⟩
                obtain ⟨Aq, cq, rfl, -, -, -⟩ := own_sl ho
                exact hK _ _ ⟨Aq, cq, rfl, own_base ho hx.size⟩ xq
              · intro fa fw hx hs hb
                obtain ⟨_, s37, rfl⟩ := hs 0 37 (by kernel_rfl) (by kernel_rfl)
                obtain ⟨_, s38, rfl⟩ := hs 1 38 (by kernel_rfl) (by kernel_rfl)
                obtain ⟨_, s42, A42, c42, rfl, q42⟩ := hs 5 42 (by kernel_rfl) (by kernel_rfl)
                refine .inl ⟨wanted_free rfl, fun K hK => ?_⟩
                clear hs hb
                obtain ⟨Ar, cr, er, -, hcm, hsr⟩ := own_sl q42
                injection er with er _ ec
                subst er; subst ec
                go_simp
                refine (TN.out fw A42 c42 hx hsr).mono ?_
                rintro e w' ⟨vo, vn, rfl, xq⟩
                exact hK _ _ ⟨vo, vn, rfl⟩ xq
              · intro fa fw hx hs hb
                obtain ⟨_, s43, A43, B43, rfl⟩ := hs 6 43 (by kernel_rfl) (by kernel_rfl)
                refine .inl ⟨wanted_free rfl, fun K hK => ?_⟩
                clear hs hb
                go_simp
                exact hK _ _ ⟨A43, B43, rfl⟩ (Ext.refl _)
              · intro fa fw hx hs hb
                obtain ⟨_, s36, A36, B36, rfl⟩ := hs 7 36 (by kernel_rfl) (by kernel_rfl)
                refine .inl ⟨wanted_free rfl, fun K hK => ?_⟩
                clear hs hb
                go_simp
                exact hK _ _ trivial (Ext.refl _)
              · intro fa fw hx hs hb
                obtain ⟨_, s36, A36, B36, rfl⟩ := hs 7 36 (by kernel_rfl) (by kernel_rfl)
                refine .inl ⟨wanted_free rfl, fun K hK => ?_⟩
                clear hs hb
                go_simp
                exact hK _ _ trivial (Ext.refl _)
              · intro fa fw hx hs hb
                obtain ⟨_, s36, A36, B36, rfl⟩ := hs 7 36 (by kernel_rfl) (by kernel_rfl)
                refine .inl ⟨wanted_free rfl, fun K hK => ?_⟩
                clear hs hb
                go_simp
                exact hK _ _ rfl (Ext.refl _)
              · intro fa fw hx hs hb
                obtain ⟨v44, s44, _⟩ := hs 8 44 (by kernel_rfl) (by kernel_rfl)
                refine .inl ⟨wanted_free rfl, fun K hK => ?_⟩
                clear hs hb
                go_simp
                exact hK _ _ trivial (Ext.refl _)
              · intro fa fw hx hs hb
                obtain ⟨v45, s45, _⟩ := hs 9 45 (by kernel_rfl) (by kernel_rfl)
                refine .inl ⟨wanted_free rfl, fun K hK => ?_⟩
                clear hs hb
                go_simp
                exact hK _ _ trivial (Ext.refl _)
              · intro fa fw hx hs hb
                obtain ⟨_, s46, rfl⟩ := hs 10 46 (by kernel_rfl) (by kernel_rfl)
                refine .inl ⟨wanted_free rfl, fun K hK => ?_⟩
                clear hs hb hx
                go_simp
                exact hK _ _ rfl (Ext.refl _)
            case rest =>
              intro w2 hxw2
              rintro _ rfl
              rintro _ rfl
              rintro _ rfl
              rintro _ rfl
              rintro _ rfl
              rintro _ ⟨A42, c42, rfl, q42⟩
              rintro _ ⟨A43, B43, rfl⟩
              rintro _ ⟨A36, B36, rfl⟩
              rintro _ ⟨⟨v44, s44, _⟩⟩
              rintro _ ⟨⟨v45, s45, _⟩⟩
              rintro _ rfl
              rintro _ ⟨⟨v13, s13, _⟩⟩
              rintro _ ⟨⟨v14, s14, _⟩⟩
              rintro _ rfl
              simp only [putAll, List.take, Act.put, List.setIfInBounds_toArray, List.set_cons_zero, List.set_cons_succ]
              refine wpAny_done (by kernel_rfl) ?_ _
              go_wp2
              exact bodyPost_ret (v := Pr3 (.slice none 0 0) (.slice none 0 0) (I 6)) (by simp [results, Try.results16, go_sem]) rfl ⟨_, _, [], by rw [HRE.out], by rw [HRV.out]; exact OwnRows.nil _ _ _ _, by rw [HRV.out]; exact World.ownsRow_nil _ _ _ _, HX.out.trans (HE.out.trans hxw2)⟩
          | some o =>
            have hnext := hst.next hx (by rw [HMI.out]; exact htn)
            have hol2 := turnN_len htn
            rw [hol, hrl] at hol2
            have tn : ∀ Q (Ab : Option Addr) (cb : Nat), Ext wr Q → Sl Q Ab m ((bitsM x m).map I) → Calls Try.prog 44 #[netV m GA gn gc RA rn rc OA on oc, .slice A9 rn c9, .slice Ab m cb] Q fun e w' => ∃ vo vn, e = .returned (Pr3 vo vn (Bv true)) ∧ w'.ownsRow Q.heap.size 3 1 vo on (o.1.map I) ∧ w'.ownsRow Q.heap.size 3 1 vn rn (o.2.map I) ∧ Ext Q w' := fun Q Ab cb hQ hsb => by
              have htq : turnQ N r (bitsM x m) = o := by unfold turnQ; rw [htn]; rfl
              refine (turn_net_any m GA gn gc RA rn rc OA on oc N A9 rn c9 Ab m cb r (bitsM x m) Q (NN.keep hQ.keeps) (hs9.keep hQ.keeps) hsb ak).mono fun e w' ⟨vo, vn, he, ho⟩ => ⟨vo, vn, ?_, ?_, ?_, ho.2.2⟩
              · rw [he, htn]; rfl
              · have := ho.1; rw [htq, hol2.1] at this; exact this
              · have := ho.2.1; rw [htq, hol2.2] at this; exact this
            have TN := Lib.hid tn; have HNX := Lib.hid hnext
            have CX := Lib.hid hcx; have HOL := Lib.hid hol2.1
            clear hnext tn htn ak NN hs9 hask bt hbx hreg hrows hst hext hx hx0 hx8 hc0 hol2
            go_wp2_with fail
            refine wp_flow3 14 0 [isV (.agg #[.int .i64 m, .slice GA gn gc, .slice RA rn rc, .slice OA on oc]), isV (.slice A9 rn c9), isV (.int .i64 x), isV (.pointer (some ⟨w.heap.size, 0, none⟩)), isV (.int .i64 m), fun v w => ∃ A c, v = .slice A m c ∧ w.ownsRow wr.heap.size 3 1 (.slice A m c) m ((bitsM x m).map I), fun v w => ∃ A c B d, v = .tuple #[.slice A on c, .slice B rn d, .bool true] ∧ w.ownsRow wr.heap.size 3 1 (.slice A on c) on (o.1.map I) ∧ w.ownsRow wr.heap.size 3 1 (.slice B rn d) rn (o.2.map I), fun v w => ∃ A c B d, v = .tuple #[.slice A on c, .slice B rn d, .bool true] ∧ w.ownsRow wr.heap.size 3 1 (.slice A on c) on (o.1.map I) ∧ w.ownsRow wr.heap.size 3 1 (.slice B rn d) rn (o.2.map I), fun v w => ∃ A c, v = .slice A on c ∧ w.ownsRow wr.heap.size 3 1 (.slice A on c) on (o.1.map I), fun v w => ∃ A c, v = .slice A rn c ∧ w.ownsRow wr.heap.size 3 1 (.slice A rn c) rn (o.2.map I), isV (.bool true), fun v w => ∃ A c, v = .slice A on c ∧ w.ownsRow wr.heap.size 3 1 (.slice A on c) on (o.1.map I), fun v w => ∃ A c, v = .slice A rn c ∧ w.ownsRow wr.heap.size 3 1 (.slice A rn c) rn (o.2.map I), isV (.bool true)] (by kernel_rfl) rfl rfl (by kernel_rfl) (by kernel_rfl) ⟨isV_mono, isV_mono, isV_mono, isV_mono, isV_mono, fun v w w' ⟨A, c, e, h⟩ hx => ⟨A, c, e, own_ext h hx⟩, fun v w w' ⟨A, c, B, d, e, h, k⟩ hx => ⟨A, c, B, d, e, own_ext h hx, own_ext k hx⟩, fun v w w' ⟨A, c, B, d, e, h, k⟩ hx => ⟨A, c, B, d, e, own_ext h hx, own_ext k hx⟩, fun v w w' ⟨A, c, e, h⟩ hx => ⟨A, c, e, own_ext h hx⟩, fun v w w' ⟨A, c, e, h⟩ hx => ⟨A, c, e, own_ext h hx⟩, isV_mono, fun v w w' ⟨A, c, e, h⟩ hx => ⟨A, c, e, own_ext h hx⟩, fun v w w' ⟨A, c, e, h⟩ hx => ⟨A, c, e, own_ext h hx⟩, isV_mono, trivial⟩ ?each ?rest
            case each =>
              refine .cons ?_ (.cons ?_ (.cons ?_ (.cons ?_ (.cons ?_ (.cons ?_ (.cons ?_ (.cons ?_ (.cons ?_ (.cons ?_ (.cons ?_ (.cons ?_ (.cons ?_ (.cons ?_ (.nil))))))))))))))
              · intro fa fw hx hs hb
                have s2 : fa.tmps[(2 : Nat)]? = some (.pointer (some ⟨w.heap.size, 0, none⟩)) := (hb 2 (by kernel_rfl)).trans (by rfl)
                have c0 := hx.keeps _ _ B0.out
                have c1 := hx.keeps _ _ B1.out
                have c2 := hx.keeps _ _ B2.out
                have c3 := hx.keeps _ _ B3.out
                refine .inl ⟨wanted_free rfl, fun K hK => ?_⟩
                clear hs hb hx
                go_simp
                exact hK _ _ rfl (Ext.refl _)
              · intro fa fw hx hs hb
                have s9 : fa.tmps[(9 : Nat)]? = some (.slice A9 rn c9) := (hb 9 (by kernel_rfl)).trans (by rfl)
                refine .inl ⟨wanted_free rfl, fun K hK => ?_⟩
                clear hs hb hx
                go_simp
                exact hK _ _ rfl (Ext.refl _)
              · intro fa fw hx hs hb
                have s12 : fa.tmps[(12 : Nat)]? = some (.int .i64 x) := (hb 12 (by kernel_rfl)).trans (by rfl)
                refine .inl ⟨wanted_free rfl, fun K hK => ?_⟩
                clear hs hb hx
                go_simp
                exact hK _ _ rfl (Ext.refl _)
              · intro fa fw hx hs hb
                have s2 : fa.tmps[(2 : Nat)]? = some (.pointer (some ⟨w.heap.size, 0, none⟩)) := (hb 2 (by kernel_rfl)).trans (by rfl)
                refine .inl ⟨wanted_free rfl, fun K hK => ?_⟩
                clear hs hb hx
                go_simp
                exact hK _ _ rfl (Ext.refl _)
              · intro fa fw hx hs hb
                obtain ⟨_, s40, rfl⟩ := hs 3 40 (by kernel_rfl) (by kernel_rfl)
                have c0 := hx.keeps _ _ B0.out
                refine .inl ⟨wanted_free rfl, fun K hK => ?_⟩
                clear hs hb hx
                go_simp
                exact hK _ _ rfl (Ext.refl _)
              · intro fa fw hx hs hb
                obtain ⟨_, s39, rfl⟩ := hs 2 39 (by kernel_rfl) (by kernel_rfl)
                obtain ⟨_, s41, rfl⟩ := hs 4 41 (by kernel_rfl) (by kernel_rfl)
                refine .inl ⟨wanted_free rfl, fun K hK => ?_⟩
                clear hs hb
                go_simp
                refine (BT.out fw).mono ?_
                rintro e w' ⟨r0, rfl, ho, xq⟩
                obtain ⟨Aq, cq, rfl, -, -, -⟩ := own_sl ho
                exact hK _ _ ⟨Aq, cq, rfl, own_base ho hx.size⟩ xq
              · intro fa fw hx hs hb
                obtain ⟨_, s37, rfl⟩ := hs 0 37 (by kernel_rfl) (by kernel_rfl)
                obtain ⟨_, s38, rfl⟩ := hs 1 38 (by kernel_rfl) (by kernel_rfl)
                obtain ⟨_, s42, A42, c42, rfl, q42⟩ := hs 5 42 (by kernel_rfl) (by kernel_rfl)
                refine .inl ⟨wanted_free rfl, fun K hK => ?_⟩
                clear hs hb
                obtain ⟨Ar, cr, er, -, hcm, hsr⟩ := own_sl q42
                injection er with er _ ec
                subst er; subst ec
                go_simp
                refine (TN.out fw A42 c42 hx hsr).mono ?_
                rintro e w' ⟨vo, vn, rfl, h1, h2, xq⟩
                obtain ⟨Aq, cq, rfl, -, -, -⟩ := own_sl h1
                obtain ⟨Bq, dq, rfl, -, -, -⟩ := own_sl h2
                exact hK _ _ ⟨Aq, cq, Bq, dq, rfl, own_base h1 hx.size, own_base h2 hx.size⟩ xq
              · intro fa fw hx hs hb
                obtain ⟨_, s43, A43, c43, B43, d43, rfl, q43, p43⟩ := hs 6 43 (by kernel_rfl) (by kernel_rfl)
                refine .inl ⟨wanted_free rfl, fun K hK => ?_⟩
                clear hs hb
                go_simp
                exact hK _ _ ⟨A43, c43, B43, d43, rfl, q43, p43⟩ (Ext.refl _)
              · intro fa fw hx hs hb
                obtain ⟨_, s36, A36, c36, B36, d36, rfl, q36, p36⟩ := hs 7 36 (by kernel_rfl) (by kernel_rfl)
                refine .inl ⟨wanted_free rfl, fun K hK => ?_⟩
                clear hs hb
                go_simp
                exact hK _ _ ⟨A36, c36, rfl, q36⟩ (Ext.refl _)
              · intro fa fw hx hs hb
                obtain ⟨_, s36, A36, c36, B36, d36, rfl, q36, p36⟩ := hs 7 36 (by kernel_rfl) (by kernel_rfl)
                refine .inl ⟨wanted_free rfl, fun K hK => ?_⟩
                clear hs hb
                go_simp
                exact hK _ _ ⟨B36, d36, rfl, p36⟩ (Ext.refl _)
              · intro fa fw hx hs hb
                obtain ⟨_, s36, A36, c36, B36, d36, rfl, q36, p36⟩ := hs 7 36 (by kernel_rfl) (by kernel_rfl)
                refine .inl ⟨wanted_free rfl, fun K hK => ?_⟩
                clear hs hb
                go_simp
                exact hK _ _ rfl (Ext.refl _)
              · intro fa fw hx hs hb
                obtain ⟨_, s44, A44, c44, rfl, q44⟩ := hs 8 44 (by kernel_rfl) (by kernel_rfl)
                refine .inl ⟨wanted_free rfl, fun K hK => ?_⟩
                clear hs hb
                go_simp
                exact hK _ _ ⟨A44, c44, rfl, q44⟩ (Ext.refl _)
              · intro fa fw hx hs hb
                obtain ⟨_, s45, A45, c45, rfl, q45⟩ := hs 9 45 (by kernel_rfl) (by kernel_rfl)
                refine .inl ⟨wanted_free rfl, fun K hK => ?_⟩
                clear hs hb
                go_simp
                exact hK _ _ ⟨A45, c45, rfl, q45⟩ (Ext.refl _)
              · intro fa fw hx hs hb
                obtain ⟨_, s46, rfl⟩ := hs 10 46 (by kernel_rfl) (by kernel_rfl)
                refine .inl ⟨wanted_free rfl, fun K hK => ?_⟩
                clear hs hb hx
                go_simp
                exact hK _ _ rfl (Ext.refl _)
            case rest =>
              intro w2 hxw2
              rintro _ rfl
              rintro _ rfl
              rintro _ rfl
              rintro _ rfl
              rintro _ rfl
              rintro _ ⟨A42, c42, rfl, q42⟩
              rintro _ ⟨A43, c43, B43, d43, rfl, q43, p43⟩
              rintro _ ⟨A36, c36, B36, d36, rfl, q36, p36⟩
              rintro _ ⟨A44, c44, rfl, q44⟩
              rintro _ ⟨A45, c45, rfl, q45⟩
              rintro _ rfl
              rintro _ ⟨A13, c13, rfl, q13⟩
              rintro _ ⟨A14, c14, rfl, q14⟩
              rintro _ rfl
              simp only [putAll, List.take, Act.put, List.setIfInBounds_toArray, List.set_cons_zero, List.set_cons_succ]
              refine wpAny_done (by kernel_rfl) ?_ _
              have HRW2 := HROWS.out.ext hxw2
              have HXW2 := HE.out.trans hxw2
              have q1 := own_base q13 HE.out.size
              have q2 := own_base q14 HE.out.size
              have HL60 := hl60
              go_wp2_with (at_builtin; refine wpList_push rfl (.tmp 49) (.tmp 51) 24 23 rfl tab_ints Try.underlying24 rfl (by omega) W w2 HXW2 _ rows.length vs rfl HRW2.row [.slice A13 on c13] rfl rfl rfl (by simp [Value.oneCell']) (by unfold maxLen; omega) (by omega) ?_; intro v' w3 hown3 hx3 hg3)
              go_roundw
              case rel => exact ⟨k + 1, o.2, rows ++ [o.1], vs ++ [.slice A13 on c13], by omega, by go_num, hx3, q2.kept hg3 (own_types q2 HRW2.row (by decide)), HRW2.push (by decide) (by rw [HOL.out]; exact q1) hown3 hg3, HNX.out⟩
              case measure => simp [intOf]; omega
        · have hkn : k = n := by omega
          subst hkn
          have hrun : runFrom N (firstM N) l = some (rows, r) := by
            have := hst; rw [← hln] at this; exact this.done
          have HRE : Hid (runE N l = 0) := by unfold Hid runE; rw [if_neg (by simp [HC.out]), HMI.out, if_neg (by simp [HT.out]), hrun]; rfl
          have HRV : Hid (runV N l = (rows, r)) := by unfold Hid runV; rw [HRE.out, hrun]; rfl
          have HST := Lib.hid hst; have HE := Lib.hid hext; have HREG := Lib.hid hreg; have HROWS := Lib.hid hrows
          clear hrun hst hext hreg hrows
          go_wp2
          exact bodyPost_ret (v := Pr3 u10 u9 (I 0)) (by simp [results, Try.results16, go_sem]) rfl ⟨_, _, vs, by rw [HRE.out], by rw [HRV.out]; exact HROWS.out.base_le HX.out.size, by rw [HRV.out]; show World.ownsRow _ _ _ _ _ r.length _; rw [HST.out.len, hrl]; exact own_base HREG.out HX.out.size, HX.out.trans HE.out⟩
    · have hnz : (timesM l m != 0) = true := by simpa using ht
      have HRE : Hid (runE N l = timesM l m) := by unfold Hid runE; rw [if_neg (by simp [HC.out]), HMI.out, if_pos (by simpa using ht)]
      have HRV : Hid (runV N l = ([], [])) := by unfold Hid runV; rw [HRE.out, if_neg (by simpa using ht)]
      go_enter Try.func16, Try.ntmps16
      go_wp2_with fail
      rw [← HW.out]
      refine (netCheck_any _ GA gn gc RA rn rc OA on oc N W HN.out).mono ?_; rintro e w1 ⟨rfl, x1⟩; rw [HC.out]
      obtain ⟨q0, q1, q2, q3⟩ := HBox.out.keep x1.keeps
      have X1 := Lib.hid x1; clear x1
      go_wp2_with fail
      refine (times_any A n c l m w1 (HL.out.keep X1.out.keeps) HNM.out hm3).mono ?_; rintro e w2 ⟨rfl, x2⟩
      have X2 := Lib.hid (X1.out.trans x2); clear x2 q0 q1 q2 q3
      go_wp2
      exact bodyPost_ret (v := Pr3 (.slice none 0 0) (.slice none 0 0) (I (timesM l m))) (by simp [results, Try.results16, go_sem]) rfl ⟨_, _, [], by rw [HRE.out], by rw [HRV.out]; exact OwnRows.nil _ _ _ _, by rw [HRV.out]; exact World.ownsRow_nil _ _ _ _, HX.out.trans X2.out⟩
  · have hnz : (checkN N != 0) = true := by simpa using hc
    have HRE : Hid (runE N l = checkN N) := by unfold Hid runE; rw [if_pos (by simpa using hc)]
    have HRV : Hid (runV N l = ([], [])) := by unfold Hid runV; rw [HRE.out, if_neg (by simpa using hc)]
    clear hc hins
    go_enter Try.func16, Try.ntmps16
    go_wp2_with fail
    rw [← HW.out]
    refine (netCheck_any _ GA gn gc RA rn rc OA on oc N W HN.out).mono ?_; rintro e w1 ⟨rfl, x1⟩
    have X1 := Lib.hid x1; clear x1
    go_wp2
    exact bodyPost_ret (v := Pr3 (.slice none 0 0) (.slice none 0 0) (I (checkN N))) (by simp [results, Try.results16, go_sem]) rfl ⟨_, _, [], by rw [HRE.out], by rw [HRV.out]; exact OwnRows.nil _ _ _ _, by rw [HRV.out]; exact World.ownsRow_nil _ _ _ _, HX.out.trans X1.out⟩
end Go.Proofs.Ytlafiddfplhafaa
/- SameRows walked. -/
namespace Go.Proofs.Ytlafiddfplhafaa
set_option linter.unusedVariables false
set_option linter.unusedSimpArgs false
open Go.RowKit
set_option maxHeartbeats 2000000 in
theorem sameRows_any (A B : Option Addr) (n m c d : Nat) (xs ys : List (List Int)) (w : World) (h : SlRows w A n xs) (h' : SlRows w B m ys) (hn : n ≤ maxLen) (hm : m ≤ maxLen) :
    Calls Try.prog 13 #[.slice A n c, .slice B m d] w fun e w' => e = .returned (.bool (decide (xs = ys))) ∧ Ext w w' := by
  generalize hM : decide (xs = ys) = M
  have hxl := h.1; have hyl := h'.1
  have H := Lib.hid h; have H' := Lib.hid h'; have HM := Lib.hid hM
  unfold maxLen at hn hm
  clear h h' hM
  by_cases hnm : n = m
  · subst hnm
    go_enter Try.func13, Try.ntmps13
    go_wp2_with fail
    go_loopw [5] (fun j wr => ∃ k : Nat, k ≤ n ∧ j = .int .i64 k ∧ Ext w wr ∧ decide (xs.drop k = ys.drop k) = M) (fun j _ => n - (intOf j).toNat)
    case atStart => exact ⟨0, Nat.zero_le _, rfl, Ext.refl _, by simpa using HM.out⟩
    case round =>
      obtain ⟨k, hk, rfl, hext, hR⟩ := hrel
      by_cases hlt : k < n
      · have hx : xs[k]? = some xs[k] := List.getElem?_eq_getElem (by omega)
        have hy : ys[k]? = some ys[k] := List.getElem?_eq_getElem (by omega)
        rw [List.drop_eq_getElem_cons (show k < xs.length by omega), List.drop_eq_getElem_cons (show k < ys.length by omega)] at hR
        generalize xs[k] = x at hx hR
        generalize ys[k] = y at hy hR
        obtain ⟨b1, o1, A1', c1, rfl, hc1, hs1, l1, m1⟩ := H.out.2 k x hx
        obtain ⟨b2, o2, A2, c2, rfl, hc2, hs2, l2, m2⟩ := H'.out.2 k y hy
        have C1 := Lib.hid (hext.keeps _ _ hc1); have C2 := Lib.hid (hext.keeps _ _ hc2); have S1 := Lib.hid (hs1.keep hext.keeps); have S2 := Lib.hid (hs2.keep hext.keeps)
        have L1 := Lib.hid (Nat.le_trans l1 m1); have L2 := Lib.hid (Nat.le_trans l2 m2)
        have HR := Lib.hid hR; have HE := Lib.hid hext
        clear hc1 hc2 hs1 hs2 hR hext hx hy l1 l2 m1 m2
        by_cases hxy : x = y
        · subst hxy
          go_wp2_with fail
          refine wp_flow3 10 0 [isV (.slice (some ⟨b1, o1, none⟩) n c), isV (.int .i64 k), isV (.pointer (some ⟨b1, o1 + k, none⟩)), isV (.slice A1' x.length c1), isV (.slice (some ⟨b2, o2, none⟩) n d), isV (.int .i64 k), isV (.pointer (some ⟨b2, o2 + k, none⟩)), isV (.slice A2 x.length c2), isV (.bool true), isV (.bool false)] (by kernel_rfl) rfl rfl (by kernel_rfl) (by kernel_rfl) ⟨isV_mono, isV_mono, isV_mono, isV_mono, isV_mono, isV_mono, isV_mono, isV_mono, isV_mono, isV_mono, trivial⟩ ?each ?rest
          case each =>
            refine .cons ?_ (.cons ?_ (.cons ?_ (.cons ?_ (.cons ?_ (.cons ?_ (.cons ?_ (.cons ?_ (.cons ?_ (.cons ?_ (.nil))))))))))
            · intro fa fw hx hs hb
              have s0 : fa.tmps[(0 : Nat)]? = some (.slice (some ⟨b1, o1, none⟩) n c) := (hb 0 (by kernel_rfl)).trans (by rfl)
              refine .inl ⟨wanted_free rfl, fun K hK => ?_⟩
              clear hs hb hx
              go_simp
              exact hK _ _ rfl (Ext.refl _)
            · intro fa fw hx hs hb
              have s5 : fa.tmps[(5 : Nat)]? = some (.int .i64 k) := (hb 5 (by kernel_rfl)).trans (by rfl)
              refine .inl ⟨wanted_free rfl, fun K hK => ?_⟩
              clear hs hb hx
              go_simp
              exact hK _ _ rfl (Ext.refl _)
            · intro fa fw hx hs hb
              obtain ⟨_, s17, rfl⟩ := hs 0 17 (by kernel_rfl) (by kernel_rfl)
              obtain ⟨_, s18, rfl⟩ := hs 1 18 (by kernel_rfl) (by kernel_rfl)
              refine .inl ⟨wanted_free rfl, fun K hK => ?_⟩
              clear hs hb hx
              go_simp
              exact hK _ _ rfl (Ext.refl _)
            · intro fa fw hx hs hb
              obtain ⟨_, s19, rfl⟩ := hs 2 19 (by kernel_rfl) (by kernel_rfl)
              have c0 := hx.keeps _ _ C1.out
              refine .inl ⟨wanted_free rfl, fun K hK => ?_⟩
              clear hs hb hx
              go_simp
              exact hK _ _ rfl (Ext.refl _)
            · intro fa fw hx hs hb
              have s1 : fa.tmps[(1 : Nat)]? = some (.slice (some ⟨b2, o2, none⟩) n d) := (hb 1 (by kernel_rfl)).trans (by rfl)
              refine .inl ⟨wanted_free rfl, fun K hK => ?_⟩
              clear hs hb hx
              go_simp
              exact hK _ _ rfl (Ext.refl _)
            · intro fa fw hx hs hb
              have s5 : fa.tmps[(5 : Nat)]? = some (.int .i64 k) := (hb 5 (by kernel_rfl)).trans (by rfl)
              refine .inl ⟨wanted_free rfl, fun K hK => ?_⟩
              clear hs hb hx
              go_simp
              exact hK _ _ rfl (Ext.refl _)
            · intro fa fw hx hs hb
              obtain ⟨_, s21, rfl⟩ := hs 4 21 (by kernel_rfl) (by kernel_rfl)
              obtain ⟨_, s22, rfl⟩ := hs 5 22 (by kernel_rfl) (by kernel_rfl)
              refine .inl ⟨wanted_free rfl, fun K hK => ?_⟩
              clear hs hb hx
              go_simp
              exact hK _ _ rfl (Ext.refl _)
            · intro fa fw hx hs hb
              obtain ⟨_, s23, rfl⟩ := hs 6 23 (by kernel_rfl) (by kernel_rfl)
              have c0 := hx.keeps _ _ C2.out
              refine .inl ⟨wanted_free rfl, fun K hK => ?_⟩
              clear hs hb hx
              go_simp
              exact hK _ _ rfl (Ext.refl _)
            · intro fa fw hx hs hb
              obtain ⟨_, s20, rfl⟩ := hs 3 20 (by kernel_rfl) (by kernel_rfl)
              obtain ⟨_, s24, rfl⟩ := hs 7 24 (by kernel_rfl) (by kernel_rfl)
              refine .inl ⟨wanted_free rfl, fun K hK => ?_⟩
              clear hs hb
              go_simp
              refine (sameInts_any A1' A2 x.length x.length c1 c2 x x fw (S1.out.keep hx.keeps) (S2.out.keep hx.keeps) L1.out L2.out).mono ?_
              rintro e w' ⟨rfl, mm, rfl⟩; rw [decide_eq_true rfl]
              exact hK _ _ rfl ((Ext.refl _).drewN _)
            · intro fa fw hx hs hb
              obtain ⟨_, s25, rfl⟩ := hs 8 25 (by kernel_rfl) (by kernel_rfl)
              refine .inl ⟨wanted_free rfl, fun K hK => ?_⟩
              clear hs hb hx
              go_simp
              exact hK _ _ rfl (Ext.refl _)
          case rest =>
            intro w2 hxw2
            rintro _ rfl
            rintro _ rfl
            rintro _ rfl
            rintro _ rfl
            rintro _ rfl
            rintro _ rfl
            rintro _ rfl
            rintro _ rfl
            rintro _ rfl
            rintro _ rfl
            simp only [putAll, List.take, Act.put, List.setIfInBounds_toArray, List.set_cons_zero, List.set_cons_succ]
            refine wpAny_done (by kernel_rfl) ?_ _
            go_wp2
            go_roundw
            case rel => exact ⟨k + 1, by omega, by go_num, HE.out.trans hxw2, by have := HR.out; simpa using this⟩
            case measure => simp [intOf]; omega
        · have HXY := Lib.hid hxy; clear hxy
          go_wp2_with fail
          refine wp_flow3 10 0 [isV (.slice (some ⟨b1, o1, none⟩) n c), isV (.int .i64 k), isV (.pointer (some ⟨b1, o1 + k, none⟩)), isV (.slice A1' x.length c1), isV (.slice (some ⟨b2, o2, none⟩) n d), isV (.int .i64 k), isV (.pointer (some ⟨b2, o2 + k, none⟩)), isV (.slice A2 y.length c2), isV (.bool false), isV (.bool true)] (by kernel_rfl) rfl rfl (by kernel_rfl) (by kernel_rfl) ⟨isV_mono, isV_mono, isV_mono, isV_mono, isV_mono, isV_mono, isV_mono, isV_mono, isV_mono, isV_mono, trivial⟩ ?each ?rest
          case each =>
            refine .cons ?_ (.cons ?_ (.cons ?_ (.cons ?_ (.cons ?_ (.cons ?_ (.cons ?_ (.cons ?_ (.cons ?_ (.cons ?_ (.nil))))))))))
            · intro fa fw hx hs hb
              have s0 : fa.tmps[(0 : Nat)]? = some (.slice (some ⟨b1, o1, none⟩) n c) := (hb 0 (by kernel_rfl)).trans (by rfl)
              refine .inl ⟨wanted_free rfl, fun K hK => ?_⟩
              clear hs hb hx
              go_simp
              exact hK _ _ rfl (Ext.refl _)
            · intro fa fw hx hs hb
              have s5 : fa.tmps[(5 : Nat)]? = some (.int .i64 k) := (hb 5 (by kernel_rfl)).trans (by rfl)
              refine .inl ⟨wanted_free rfl, fun K hK => ?_⟩
              clear hs hb hx
              go_simp
              exact hK _ _ rfl (Ext.refl _)
            · intro fa fw hx hs hb
              obtain ⟨_, s17, rfl⟩ := hs 0 17 (by kernel_rfl) (by kernel_rfl)
              obtain ⟨_, s18, rfl⟩ := hs 1 18 (by kernel_rfl) (by kernel_rfl)
              refine .inl ⟨wanted_free rfl, fun K hK => ?_⟩
              clear hs hb hx
              go_simp
              exact hK _ _ rfl (Ext.refl _)
            · intro fa fw hx hs hb
              obtain ⟨_, s19, rfl⟩ := hs 2 19 (by kernel_rfl) (by kernel_rfl)
              have c0 := hx.keeps _ _ C1.out
              refine .inl ⟨wanted_free rfl, fun K hK => ?_⟩
              clear hs hb hx
              go_simp
              exact hK _ _ rfl (Ext.refl _)
            · intro fa fw hx hs hb
              have s1 : fa.tmps[(1 : Nat)]? = some (.slice (some ⟨b2, o2, none⟩) n d) := (hb 1 (by kernel_rfl)).trans (by rfl)
              refine .inl ⟨wanted_free rfl, fun K hK => ?_⟩
              clear hs hb hx
              go_simp
              exact hK _ _ rfl (Ext.refl _)
            · intro fa fw hx hs hb
              have s5 : fa.tmps[(5 : Nat)]? = some (.int .i64 k) := (hb 5 (by kernel_rfl)).trans (by rfl)
              refine .inl ⟨wanted_free rfl, fun K hK => ?_⟩
              clear hs hb hx
              go_simp
              exact hK _ _ rfl (Ext.refl _)
            · intro fa fw hx hs hb
              obtain ⟨_, s21, rfl⟩ := hs 4 21 (by kernel_rfl) (by kernel_rfl)
              obtain ⟨_, s22, rfl⟩ := hs 5 22 (by kernel_rfl) (by kernel_rfl)
              refine .inl ⟨wanted_free rfl, fun K hK => ?_⟩
              clear hs hb hx
              go_simp
              exact hK _ _ rfl (Ext.refl _)
            · intro fa fw hx hs hb
              obtain ⟨_, s23, rfl⟩ := hs 6 23 (by kernel_rfl) (by kernel_rfl)
              have c0 := hx.keeps _ _ C2.out
              refine .inl ⟨wanted_free rfl, fun K hK => ?_⟩
              clear hs hb hx
              go_simp
              exact hK _ _ rfl (Ext.refl _)
            · intro fa fw hx hs hb
              obtain ⟨_, s20, rfl⟩ := hs 3 20 (by kernel_rfl) (by kernel_rfl)
              obtain ⟨_, s24, rfl⟩ := hs 7 24 (by kernel_rfl) (by kernel_rfl)
              refine .inl ⟨wanted_free rfl, fun K hK => ?_⟩
              clear hs hb
              go_simp
              refine (sameInts_any A1' A2 x.length y.length c1 c2 x y fw (S1.out.keep hx.keeps) (S2.out.keep hx.keeps) L1.out L2.out).mono ?_
              rintro e w' ⟨rfl, mm, rfl⟩; rw [decide_eq_false HXY.out]
              exact hK _ _ rfl ((Ext.refl _).drewN _)
            · intro fa fw hx hs hb
              obtain ⟨_, s25, rfl⟩ := hs 8 25 (by kernel_rfl) (by kernel_rfl)
              refine .inl ⟨wanted_free rfl, fun K hK => ?_⟩
              clear hs hb hx
              go_simp
              exact hK _ _ rfl (Ext.refl _)
          case rest =>
            intro w2 hxw2
            rintro _ rfl
            rintro _ rfl
            rintro _ rfl
            rintro _ rfl
            rintro _ rfl
            rintro _ rfl
            rintro _ rfl
            rintro _ rfl
            rintro _ rfl
            rintro _ rfl
            simp only [putAll, List.take, Act.put, List.setIfInBounds_toArray, List.set_cons_zero, List.set_cons_succ]
            refine wpAny_done (by kernel_rfl) ?_ _
            go_wp2
            go_ret
            exact ⟨ret_bool (by rw [← HR.out]; simp [HXY.out]), HE.out.trans hxw2⟩
      · have hkn : k = n := by omega
        rw [List.drop_eq_nil_of_le (by omega), List.drop_eq_nil_of_le (by omega)] at hR
        have HR := Lib.hid hR; clear hR
        go_wp2
        go_ret
        exact ⟨ret_bool (by rw [← HR.out]; simp), hext⟩
  · have hne : ((n : Int) != (m : Int)) = true := by simp; omega
    have hxy : M = false := by rw [← HM.out]; simp; intro e; rw [e] at hxl; omega
    have HF := Lib.hid hxy; clear hxy
    go_enter Try.func13, Try.ntmps13
    go_wp2
    go_ret
    exact ⟨ret_bool HF.out.symm, Ext.refl _⟩
end Go.Proofs.Ytlafiddfplhafaa
/- net.Needed and net.Needs walked. -/
namespace Go.Proofs.Ytlafiddfplhafaa
set_option linter.unusedVariables false
set_option linter.unusedSimpArgs false
open Go.RowKit
end Go.Proofs.Ytlafiddfplhafaa
