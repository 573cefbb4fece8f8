/- The reference's reader of texts: nodeFrom walked, where it forks. -/
import Derived.Test.YtgohhcnmkomafaaGreatDoorDz11
import Derived.Test.YtgohhcnmkomafaaGreatDoorDz08
import Derived.Test.YtgohhcnmkomafaaGreatDoorDz07
namespace Go.Proofs.YtgohhcnmkomafaaGreatDoor
set_option linter.unusedVariables false
set_option linter.unusedSimpArgs false
set_option linter.unusedVariables false
set_option linter.unusedSimpArgs false
open Go.RowKit
set_option maxHeartbeats 400000 in
theorem from_w5_nil (w : World) (s : List UInt8) (l : Nat) (hs : s.length ≤ 5000) (hl : l ≤ 13) (hi0 : isP wNothing s = false) (hi1 : isP wPause s = false) (hi2 : isP wHalt s = false) (hi3 : isP wEmit s = false) (hi4 : isP wAwait s = false) (hi5 : isP wIf s = true) (hq : restP wIf s = []) :
    Calls Tryz.prog 42 #[S s, I ((l : Int) + 1)] w fun e w' => ∃ u v, e = .returned (Pr3 u v (.bool false)) ∧ Ext w w' := by
  have hr := True.intro
  have HI0 := Lib.hid hi0; clear hi0
  have HI1 := Lib.hid hi1; clear hi1
  have HI2 := Lib.hid hi2; clear hi2
  have HI3 := Lib.hid hi3; clear hi3
  have HI4 := Lib.hid hi4; clear hi4
  have HI5 := Lib.hid hi5; clear hi5
  have HQ' := Lib.hid hq; clear hq
  go_enter Tryz.func42, Tryz.ntmps42
  go_wp2_with fail
  refine wp_loop_rounds 4 ?_
  rw [rounds_succ]
  go_wp2_with fail
  refine (after_any s wNothing (by omega) (by decide) _).mono ?_; rintro e w' ⟨rfl, rfl⟩; rw [HI0.out]
  go_wp2_with fail
  rw [rounds_succ]
  go_wp2_with fail
  refine (after_any s wPause (by omega) (by decide) _).mono ?_; rintro e w' ⟨rfl, rfl⟩; rw [HI1.out]
  go_wp2_with fail
  rw [rounds_succ]
  go_wp2_with fail
  refine (after_any s wHalt (by omega) (by decide) _).mono ?_; rintro e w' ⟨rfl, rfl⟩; rw [HI2.out]
  go_wp2_with fail
  rw [rounds_succ]
  go_wp2_with fail
  rw [rfW_eq]
  have d0 := rfW_word w 0 _ rfl
  have d1 := rfW_word w 1 _ rfl
  have d2 := rfW_word w 2 _ rfl
  have d3 := rfW_word w 3 _ rfl
  have e0 := rfW_kind w 2 _ rfl
  have f0 := rfW_first w 2 _ rfl
  have xf := rfW_ext w
  have hsz := rfW_size w
  generalize rfW w = wf at *
  refine wp_loop_rounds 5 ?_
  rw [rounds_succ]
  go_wp2_with fail
  refine (after_any s wEmit (by omega) (by decide) _).mono ?_; rintro e w' ⟨rfl, rfl⟩; rw [HI3.out]
  go_wp2_with fail
  rw [rounds_succ]
  go_wp2_with fail
  refine (after_any s wAwait (by omega) (by decide) _).mono ?_; rintro e w' ⟨rfl, rfl⟩; rw [HI4.out]
  go_wp2_with fail
  rw [rounds_succ]
  go_hideQ
  go_wp2_with fail
  refine (after_any s wIf (by omega) (by decide) _).mono ?_; rintro e w' ⟨rfl, rfl⟩; rw [HI5.out]
  rw [HQ'.out]
  go_wp2_with fail
  have F0 := Lib.hid f0
  refine wp_flow3 21 0 [isV (S []), isV (.bool true), isV (.bool true), isV undef, isV undef, isV undef, isV undef, isV undef, isV undef, isV undef, isV (.bool true), isV (.bool true), isV undef, isV undef, isV undef, isV undef, isV undef, isV undef, isV undef, isV undef, isV (.bool true)] (by kernel_rfl) rfl rfl (by kernel_rfl) (by kernel_rfl) ⟨isV_mono, isV_mono, isV_mono, isV_mono, isV_mono, isV_mono, isV_mono, isV_mono, isV_mono, isV_mono, isV_mono, isV_mono, isV_mono, isV_mono, isV_mono, isV_mono, isV_mono, isV_mono, isV_mono, isV_mono, isV_mono, trivial⟩ ?each ?rest
  case each =>
    refine .cons ?_ (.cons ?_ (.cons ?_ (.cons ?_ (.cons ?_ (.cons ?_ (.cons ?_ (.cons ?_ (.cons ?_ (.cons ?_ (.cons ?_ (.cons ?_ (.cons ?_ (.cons ?_ (.cons ?_ (.cons ?_ (.cons ?_ (.cons ?_ (.cons ?_ (.cons ?_ (.cons ?_ (.nil)))))))))))))))))))))
    · intro fa fw hx hs hb
      have s15 : fa.tmps[(15 : Nat)]? = some (S []) := (hb 15 (by kernel_rfl)).trans (by rfl)
      refine .inl ⟨wanted_free rfl, fun K hK => ?_⟩
      clear hs hb hx
      go_simp
      exact hK _ _ rfl (Ext.refl _)
    · intro fa fw hx hs hb
      obtain ⟨_, s67, rfl⟩ := hs 0 67 (by kernel_rfl) (by kernel_rfl)
      refine .inl ⟨wanted_free rfl, fun K hK => ?_⟩
      clear hs hb
      go_simp
      exact hK _ _ rfl (Ext.refl _)
    · intro fa fw hx hs hb
      obtain ⟨_, s68, rfl⟩ := hs 1 68 (by kernel_rfl) (by kernel_rfl)
      refine .inl ⟨wanted_free rfl, fun K hK => ?_⟩
      clear hs hb hx
      go_simp
      exact hK _ _ rfl (Ext.refl _)
    · intro fa fw hx hs hb
      obtain ⟨_, s69, rfl⟩ := hs 2 69 (by kernel_rfl) (by kernel_rfl)
      exact .inr ⟨wanted_no 2 false 69 rfl (by kernel_rfl) s69, rfl⟩
    · intro fa fw hx hs hb
      obtain ⟨_, s69, rfl⟩ := hs 2 69 (by kernel_rfl) (by kernel_rfl)
      exact .inr ⟨wanted_no 2 false 69 rfl (by kernel_rfl) s69, rfl⟩
    · intro fa fw hx hs hb
      obtain ⟨_, s69, rfl⟩ := hs 2 69 (by kernel_rfl) (by kernel_rfl)
      exact .inr ⟨wanted_no 2 false 69 rfl (by kernel_rfl) s69, rfl⟩
    · intro fa fw hx hs hb
      obtain ⟨_, s69, rfl⟩ := hs 2 69 (by kernel_rfl) (by kernel_rfl)
      exact .inr ⟨wanted_no 2 false 69 rfl (by kernel_rfl) s69, rfl⟩
    · intro fa fw hx hs hb
      obtain ⟨_, s69, rfl⟩ := hs 2 69 (by kernel_rfl) (by kernel_rfl)
      exact .inr ⟨wanted_no 2 false 69 rfl (by kernel_rfl) s69, rfl⟩
    · intro fa fw hx hs hb
      obtain ⟨_, s69, rfl⟩ := hs 2 69 (by kernel_rfl) (by kernel_rfl)
      exact .inr ⟨wanted_no 2 false 69 rfl (by kernel_rfl) s69, rfl⟩
    · intro fa fw hx hs hb
      obtain ⟨_, s69, rfl⟩ := hs 2 69 (by kernel_rfl) (by kernel_rfl)
      exact .inr ⟨wanted_no 2 false 69 rfl (by kernel_rfl) s69, rfl⟩
    · intro fa fw hx hs hb
      obtain ⟨_, s69, rfl⟩ := hs 2 69 (by kernel_rfl) (by kernel_rfl)
      obtain ⟨_, s76, rfl⟩ := hs 9 76 (by kernel_rfl) (by kernel_rfl)
      refine .inl ⟨wanted_free rfl, fun K hK => ?_⟩
      clear hs hb hx
      go_simp
      exact hK _ _ rfl (Ext.refl _)
    · intro fa fw hx hs hb
      obtain ⟨_, s77, rfl⟩ := hs 10 77 (by kernel_rfl) (by kernel_rfl)
      refine .inl ⟨wanted_free rfl, fun K hK => ?_⟩
      clear hs hb hx
      go_simp
      exact hK _ _ rfl (Ext.refl _)
    · intro fa fw hx hs hb
      obtain ⟨_, s78, rfl⟩ := hs 11 78 (by kernel_rfl) (by kernel_rfl)
      exact .inr ⟨wanted_no 11 false 78 rfl (by kernel_rfl) s78, rfl⟩
    · intro fa fw hx hs hb
      obtain ⟨_, s78, rfl⟩ := hs 11 78 (by kernel_rfl) (by kernel_rfl)
      exact .inr ⟨wanted_no 11 false 78 rfl (by kernel_rfl) s78, rfl⟩
    · intro fa fw hx hs hb
      obtain ⟨_, s78, rfl⟩ := hs 11 78 (by kernel_rfl) (by kernel_rfl)
      exact .inr ⟨wanted_no 11 false 78 rfl (by kernel_rfl) s78, rfl⟩
    · intro fa fw hx hs hb
      obtain ⟨_, s78, rfl⟩ := hs 11 78 (by kernel_rfl) (by kernel_rfl)
      exact .inr ⟨wanted_no 11 false 78 rfl (by kernel_rfl) s78, rfl⟩
    · intro fa fw hx hs hb
      obtain ⟨_, s78, rfl⟩ := hs 11 78 (by kernel_rfl) (by kernel_rfl)
      exact .inr ⟨wanted_no 11 false 78 rfl (by kernel_rfl) s78, rfl⟩
    · intro fa fw hx hs hb
      obtain ⟨_, s78, rfl⟩ := hs 11 78 (by kernel_rfl) (by kernel_rfl)
      exact .inr ⟨wanted_no 11 false 78 rfl (by kernel_rfl) s78, rfl⟩
    · intro fa fw hx hs hb
      obtain ⟨_, s78, rfl⟩ := hs 11 78 (by kernel_rfl) (by kernel_rfl)
      exact .inr ⟨wanted_no 11 false 78 rfl (by kernel_rfl) s78, rfl⟩
    · intro fa fw hx hs hb
      obtain ⟨_, s78, rfl⟩ := hs 11 78 (by kernel_rfl) (by kernel_rfl)
      exact .inr ⟨wanted_no 11 false 78 rfl (by kernel_rfl) s78, rfl⟩
    · intro fa fw hx hs hb
      obtain ⟨_, s78, rfl⟩ := hs 11 78 (by kernel_rfl) (by kernel_rfl)
      obtain ⟨_, s86, rfl⟩ := hs 19 86 (by kernel_rfl) (by kernel_rfl)
      refine .inl ⟨wanted_free rfl, fun K hK => ?_⟩
      clear hs hb hx
      go_simp
      exact hK _ _ rfl (Ext.refl _)
  case rest =>
    intro w2 hxw2
    rintro _ rfl
    rintro _ rfl
    rintro _ rfl
    rintro _ rfl
    rintro _ rfl
    rintro _ rfl
    rintro _ rfl
    rintro _ rfl
    rintro _ rfl
    rintro _ rfl
    rintro _ rfl
    rintro _ rfl
    rintro _ rfl
    rintro _ rfl
    rintro _ rfl
    rintro _ rfl
    rintro _ rfl
    rintro _ rfl
    rintro _ rfl
    rintro _ rfl
    rintro _ rfl
    simp only [putAll, List.take, Act.put, List.setIfInBounds_toArray, List.set_cons_zero, List.set_cons_succ]
    refine wpAny_done (by kernel_rfl) ?_ _
    go_wp2
    exact bodyPost_ret (v := Pr3 (.slice none 0 0) (S s) (.bool false)) (by simp [results, Tryz.results42, go_sem]) rfl ⟨_, _, rfl, xf.trans hxw2⟩
set_option maxHeartbeats 400000 in
theorem from_w5_lo (w : World) (s : List UInt8) (l : Nat) (hs : s.length ≤ 5000) (hl : l ≤ 13) (hi0 : isP wNothing s = false) (hi1 : isP wPause s = false) (hi2 : isP wHalt s = false) (hi3 : isP wEmit s = false) (hi4 : isP wAwait s = false) (hi5 : isP wIf s = true) {c : UInt8} {r : List UInt8} (hq : restP wIf s = c :: r) (hc : c.toNat < 120) :
    Calls Tryz.prog 42 #[S s, I ((l : Int) + 1)] w fun e w' => ∃ u v, e = .returned (Pr3 u v (.bool false)) ∧ Ext w w' := by
  have hr := True.intro
  have HC := Lib.hid hc; clear hc
  have HI0 := Lib.hid hi0; clear hi0
  have HI1 := Lib.hid hi1; clear hi1
  have HI2 := Lib.hid hi2; clear hi2
  have HI3 := Lib.hid hi3; clear hi3
  have HI4 := Lib.hid hi4; clear hi4
  have HI5 := Lib.hid hi5; clear hi5
  have HQ' := Lib.hid hq; clear hq
  go_enter Tryz.func42, Tryz.ntmps42
  go_wp2_with fail
  refine wp_loop_rounds 4 ?_
  rw [rounds_succ]
  go_wp2_with fail
  refine (after_any s wNothing (by omega) (by decide) _).mono ?_; rintro e w' ⟨rfl, rfl⟩; rw [HI0.out]
  go_wp2_with fail
  rw [rounds_succ]
  go_wp2_with fail
  refine (after_any s wPause (by omega) (by decide) _).mono ?_; rintro e w' ⟨rfl, rfl⟩; rw [HI1.out]
  go_wp2_with fail
  rw [rounds_succ]
  go_wp2_with fail
  refine (after_any s wHalt (by omega) (by decide) _).mono ?_; rintro e w' ⟨rfl, rfl⟩; rw [HI2.out]
  go_wp2_with fail
  rw [rounds_succ]
  go_wp2_with fail
  rw [rfW_eq]
  have d0 := rfW_word w 0 _ rfl
  have d1 := rfW_word w 1 _ rfl
  have d2 := rfW_word w 2 _ rfl
  have d3 := rfW_word w 3 _ rfl
  have e0 := rfW_kind w 2 _ rfl
  have f0 := rfW_first w 2 _ rfl
  have xf := rfW_ext w
  have hsz := rfW_size w
  generalize rfW w = wf at *
  refine wp_loop_rounds 5 ?_
  rw [rounds_succ]
  go_wp2_with fail
  refine (after_any s wEmit (by omega) (by decide) _).mono ?_; rintro e w' ⟨rfl, rfl⟩; rw [HI3.out]
  go_wp2_with fail
  rw [rounds_succ]
  go_wp2_with fail
  refine (after_any s wAwait (by omega) (by decide) _).mono ?_; rintro e w' ⟨rfl, rfl⟩; rw [HI4.out]
  go_wp2_with fail
  rw [rounds_succ]
  go_hideQ
  go_wp2_with fail
  refine (after_any s wIf (by omega) (by decide) _).mono ?_; rintro e w' ⟨rfl, rfl⟩; rw [HI5.out]
  rw [HQ'.out]
  go_wp2_with fail
  have F0 := Lib.hid f0
  refine wp_flow3 21 0 [isV (S (c :: r)), isV (.bool false), isV (.bool false), isV (S (c :: r)), isV (.int .u8 c.toNat), isV (.slice (some ⟨w.heap.size + 1 + 1 + 1, 0, none⟩) 4 4), isV (.int .i64 2), isV (.pointer (some ⟨w.heap.size + 1 + 1 + 1, 2, none⟩)), isV (.int .u8 120), isV (.bool true), isV (.bool true), isV (.bool true), isV undef, isV undef, isV undef, isV undef, isV undef, isV undef, isV undef, isV undef, isV (.bool true)] (by kernel_rfl) rfl rfl (by kernel_rfl) (by kernel_rfl) ⟨isV_mono, isV_mono, isV_mono, isV_mono, isV_mono, isV_mono, isV_mono, isV_mono, isV_mono, isV_mono, isV_mono, isV_mono, isV_mono, isV_mono, isV_mono, isV_mono, isV_mono, isV_mono, isV_mono, isV_mono, isV_mono, trivial⟩ ?each ?rest
  case each =>
    refine .cons ?_ (.cons ?_ (.cons ?_ (.cons ?_ (.cons ?_ (.cons ?_ (.cons ?_ (.cons ?_ (.cons ?_ (.cons ?_ (.cons ?_ (.cons ?_ (.cons ?_ (.cons ?_ (.cons ?_ (.cons ?_ (.cons ?_ (.cons ?_ (.cons ?_ (.cons ?_ (.cons ?_ (.nil)))))))))))))))))))))
    · intro fa fw hx hs hb
      have s15 : fa.tmps[(15 : Nat)]? = some (S (c :: r)) := (hb 15 (by kernel_rfl)).trans (by rfl)
      refine .inl ⟨wanted_free rfl, fun K hK => ?_⟩
      clear hs hb hx
      go_simp
      exact hK _ _ rfl (Ext.refl _)
    · intro fa fw hx hs hb
      obtain ⟨_, s67, rfl⟩ := hs 0 67 (by kernel_rfl) (by kernel_rfl)
      refine .inl ⟨wanted_free rfl, fun K hK => ?_⟩
      clear hs hb
      go_simp
      exact hK _ _ rfl (Ext.refl _)
    · intro fa fw hx hs hb
      obtain ⟨_, s68, rfl⟩ := hs 1 68 (by kernel_rfl) (by kernel_rfl)
      refine .inl ⟨wanted_free rfl, fun K hK => ?_⟩
      clear hs hb hx
      go_simp
      exact hK _ _ rfl (Ext.refl _)
    · intro fa fw hx hs hb
      obtain ⟨_, s69, rfl⟩ := hs 2 69 (by kernel_rfl) (by kernel_rfl)
      have s15 : fa.tmps[(15 : Nat)]? = some (S (c :: r)) := (hb 15 (by kernel_rfl)).trans (by rfl)
      refine .inl ⟨wanted_yes 2 false 69 rfl (by kernel_rfl) s69, fun K hK => ?_⟩
      clear hs hb hx
      go_simp
      exact hK _ _ rfl (Ext.refl _)
    · intro fa fw hx hs hb
      obtain ⟨_, s69, rfl⟩ := hs 2 69 (by kernel_rfl) (by kernel_rfl)
      obtain ⟨_, s70, rfl⟩ := hs 3 70 (by kernel_rfl) (by kernel_rfl)
      refine .inl ⟨wanted_yes 2 false 69 rfl (by kernel_rfl) s69, fun K hK => ?_⟩
      clear hs hb
      go_simp
      exact hK _ _ rfl (Ext.refl _)
    · intro fa fw hx hs hb
      obtain ⟨_, s69, rfl⟩ := hs 2 69 (by kernel_rfl) (by kernel_rfl)
      have s13 : fa.tmps[(13 : Nat)]? = some (.slice (some ⟨w.heap.size + 1 + 1 + 1, 0, none⟩) 4 4) := (hb 13 (by kernel_rfl)).trans (by rfl)
      refine .inl ⟨wanted_yes 2 false 69 rfl (by kernel_rfl) s69, fun K hK => ?_⟩
      clear hs hb hx
      go_simp
      exact hK _ _ rfl (Ext.refl _)
    · intro fa fw hx hs hb
      obtain ⟨_, s69, rfl⟩ := hs 2 69 (by kernel_rfl) (by kernel_rfl)
      have s14 : fa.tmps[(14 : Nat)]? = some (.int .i64 2) := (hb 14 (by kernel_rfl)).trans (by rfl)
      refine .inl ⟨wanted_yes 2 false 69 rfl (by kernel_rfl) s69, fun K hK => ?_⟩
      clear hs hb hx
      go_simp
      exact hK _ _ rfl (Ext.refl _)
    · intro fa fw hx hs hb
      obtain ⟨_, s69, rfl⟩ := hs 2 69 (by kernel_rfl) (by kernel_rfl)
      obtain ⟨_, s72, rfl⟩ := hs 5 72 (by kernel_rfl) (by kernel_rfl)
      obtain ⟨_, s73, rfl⟩ := hs 6 73 (by kernel_rfl) (by kernel_rfl)
      refine .inl ⟨wanted_yes 2 false 69 rfl (by kernel_rfl) s69, fun K hK => ?_⟩
      clear hs hb hx
      go_simp
      exact hK _ _ rfl (Ext.refl _)
    · intro fa fw hx hs hb
      obtain ⟨_, s69, rfl⟩ := hs 2 69 (by kernel_rfl) (by kernel_rfl)
      obtain ⟨_, s74, rfl⟩ := hs 7 74 (by kernel_rfl) (by kernel_rfl)
      have c0 := hx.keeps _ _ F0.out
      refine .inl ⟨wanted_yes 2 false 69 rfl (by kernel_rfl) s69, fun K hK => ?_⟩
      clear hs hb hx
      go_simp
      exact hK _ _ rfl (Ext.refl _)
    · intro fa fw hx hs hb
      obtain ⟨_, s69, rfl⟩ := hs 2 69 (by kernel_rfl) (by kernel_rfl)
      obtain ⟨_, s71, rfl⟩ := hs 4 71 (by kernel_rfl) (by kernel_rfl)
      obtain ⟨_, s75, rfl⟩ := hs 8 75 (by kernel_rfl) (by kernel_rfl)
      refine .inl ⟨wanted_yes 2 false 69 rfl (by kernel_rfl) s69, fun K hK => ?_⟩
      clear hs hb
      have hc := HC.out
      go_simp
      refine hK _ _ (boolV (w := fw) ?_) (Ext.refl _)
      simp; omega
    · intro fa fw hx hs hb
      obtain ⟨_, s69, rfl⟩ := hs 2 69 (by kernel_rfl) (by kernel_rfl)
      obtain ⟨_, s76, rfl⟩ := hs 9 76 (by kernel_rfl) (by kernel_rfl)
      refine .inl ⟨wanted_free rfl, fun K hK => ?_⟩
      clear hs hb hx
      go_simp
      exact hK _ _ rfl (Ext.refl _)
    · intro fa fw hx hs hb
      obtain ⟨_, s77, rfl⟩ := hs 10 77 (by kernel_rfl) (by kernel_rfl)
      refine .inl ⟨wanted_free rfl, fun K hK => ?_⟩
      clear hs hb hx
      go_simp
      exact hK _ _ rfl (Ext.refl _)
    · intro fa fw hx hs hb
      obtain ⟨_, s78, rfl⟩ := hs 11 78 (by kernel_rfl) (by kernel_rfl)
      exact .inr ⟨wanted_no 11 false 78 rfl (by kernel_rfl) s78, rfl⟩
    · intro fa fw hx hs hb
      obtain ⟨_, s78, rfl⟩ := hs 11 78 (by kernel_rfl) (by kernel_rfl)
      exact .inr ⟨wanted_no 11 false 78 rfl (by kernel_rfl) s78, rfl⟩
    · intro fa fw hx hs hb
      obtain ⟨_, s78, rfl⟩ := hs 11 78 (by kernel_rfl) (by kernel_rfl)
      exact .inr ⟨wanted_no 11 false 78 rfl (by kernel_rfl) s78, rfl⟩
    · intro fa fw hx hs hb
      obtain ⟨_, s78, rfl⟩ := hs 11 78 (by kernel_rfl) (by kernel_rfl)
      exact .inr ⟨wanted_no 11 false 78 rfl (by kernel_rfl) s78, rfl⟩
    · intro fa fw hx hs hb
      obtain ⟨_, s78, rfl⟩ := hs 11 78 (by kernel_rfl) (by kernel_rfl)
      exact .inr ⟨wanted_no 11 false 78 rfl (by kernel_rfl) s78, rfl⟩
    · intro fa fw hx hs hb
      obtain ⟨_, s78, rfl⟩ := hs 11 78 (by kernel_rfl) (by kernel_rfl)
      exact .inr ⟨wanted_no 11 false 78 rfl (by kernel_rfl) s78, rfl⟩
    · intro fa fw hx hs hb
      obtain ⟨_, s78, rfl⟩ := hs 11 78 (by kernel_rfl) (by kernel_rfl)
      exact .inr ⟨wanted_no 11 false 78 rfl (by kernel_rfl) s78, rfl⟩
    · intro fa fw hx hs hb
      obtain ⟨_, s78, rfl⟩ := hs 11 78 (by kernel_rfl) (by kernel_rfl)
      exact .inr ⟨wanted_no 11 false 78 rfl (by kernel_rfl) s78, rfl⟩
    · intro fa fw hx hs hb
      obtain ⟨_, s78, rfl⟩ := hs 11 78 (by kernel_rfl) (by kernel_rfl)
      obtain ⟨_, s86, rfl⟩ := hs 19 86 (by kernel_rfl) (by kernel_rfl)
      refine .inl ⟨wanted_free rfl, fun K hK => ?_⟩
      clear hs hb hx
      go_simp
      exact hK _ _ rfl (Ext.refl _)
  case rest =>
    intro w2 hxw2
    rintro _ rfl
    rintro _ rfl
    rintro _ rfl
    rintro _ rfl
    rintro _ rfl
    rintro _ rfl
    rintro _ rfl
    rintro _ rfl
    rintro _ rfl
    rintro _ rfl
    rintro _ rfl
    rintro _ rfl
    rintro _ rfl
    rintro _ rfl
    rintro _ rfl
    rintro _ rfl
    rintro _ rfl
    rintro _ rfl
    rintro _ rfl
    rintro _ rfl
    rintro _ rfl
    simp only [putAll, List.take, Act.put, List.setIfInBounds_toArray, List.set_cons_zero, List.set_cons_succ]
    refine wpAny_done (by kernel_rfl) ?_ _
    go_wp2
    exact bodyPost_ret (v := Pr3 (.slice none 0 0) (S s) (.bool false)) (by simp [results, Tryz.results42, go_sem]) rfl ⟨_, _, rfl, xf.trans hxw2⟩
set_option maxHeartbeats 400000 in
theorem from_w5_hi (w : World) (s : List UInt8) (l : Nat) (hs : s.length ≤ 5000) (hl : l ≤ 13) (hi0 : isP wNothing s = false) (hi1 : isP wPause s = false) (hi2 : isP wHalt s = false) (hi3 : isP wEmit s = false) (hi4 : isP wAwait s = false) (hi5 : isP wIf s = true) {c : UInt8} {r : List UInt8} (hq : restP wIf s = c :: r) (hc : 122 < c.toNat) :
    Calls Tryz.prog 42 #[S s, I ((l : Int) + 1)] w fun e w' => ∃ u v, e = .returned (Pr3 u v (.bool false)) ∧ Ext w w' := by
  have hr := True.intro
  have HC := Lib.hid hc; clear hc
  have HI0 := Lib.hid hi0; clear hi0
  have HI1 := Lib.hid hi1; clear hi1
  have HI2 := Lib.hid hi2; clear hi2
  have HI3 := Lib.hid hi3; clear hi3
  have HI4 := Lib.hid hi4; clear hi4
  have HI5 := Lib.hid hi5; clear hi5
  have HQ' := Lib.hid hq; clear hq
  go_enter Tryz.func42, Tryz.ntmps42
  go_wp2_with fail
  refine wp_loop_rounds 4 ?_
  rw [rounds_succ]
  go_wp2_with fail
  refine (after_any s wNothing (by omega) (by decide) _).mono ?_; rintro e w' ⟨rfl, rfl⟩; rw [HI0.out]
  go_wp2_with fail
  rw [rounds_succ]
  go_wp2_with fail
  refine (after_any s wPause (by omega) (by decide) _).mono ?_; rintro e w' ⟨rfl, rfl⟩; rw [HI1.out]
  go_wp2_with fail
  rw [rounds_succ]
  go_wp2_with fail
  refine (after_any s wHalt (by omega) (by decide) _).mono ?_; rintro e w' ⟨rfl, rfl⟩; rw [HI2.out]
  go_wp2_with fail
  rw [rounds_succ]
  go_wp2_with fail
  rw [rfW_eq]
  have d0 := rfW_word w 0 _ rfl
  have d1 := rfW_word w 1 _ rfl
  have d2 := rfW_word w 2 _ rfl
  have d3 := rfW_word w 3 _ rfl
  have e0 := rfW_kind w 2 _ rfl
  have f0 := rfW_first w 2 _ rfl
  have xf := rfW_ext w
  have hsz := rfW_size w
  generalize rfW w = wf at *
  refine wp_loop_rounds 5 ?_
  rw [rounds_succ]
  go_wp2_with fail
  refine (after_any s wEmit (by omega) (by decide) _).mono ?_; rintro e w' ⟨rfl, rfl⟩; rw [HI3.out]
  go_wp2_with fail
  rw [rounds_succ]
  go_wp2_with fail
  refine (after_any s wAwait (by omega) (by decide) _).mono ?_; rintro e w' ⟨rfl, rfl⟩; rw [HI4.out]
  go_wp2_with fail
  rw [rounds_succ]
  go_hideQ
  go_wp2_with fail
  refine (after_any s wIf (by omega) (by decide) _).mono ?_; rintro e w' ⟨rfl, rfl⟩; rw [HI5.out]
  rw [HQ'.out]
  go_wp2_with fail
  have F0 := Lib.hid f0
  refine wp_flow3 21 0 [isV (S (c :: r)), isV (.bool false), isV (.bool false), isV (S (c :: r)), isV (.int .u8 c.toNat), isV (.slice (some ⟨w.heap.size + 1 + 1 + 1, 0, none⟩) 4 4), isV (.int .i64 2), isV (.pointer (some ⟨w.heap.size + 1 + 1 + 1, 2, none⟩)), isV (.int .u8 120), isV (.bool false), isV (.bool false), isV (.bool false), isV (S (c :: r)), isV (.int .u8 c.toNat), isV (.slice (some ⟨w.heap.size + 1 + 1 + 1, 0, none⟩) 4 4), isV (.int .i64 2), isV (.pointer (some ⟨w.heap.size + 1 + 1 + 1, 2, none⟩)), isV (.int .u8 120), isV (.int .u8 122), isV (.bool true), isV (.bool true)] (by kernel_rfl) rfl rfl (by kernel_rfl) (by kernel_rfl) ⟨isV_mono, isV_mono, isV_mono, isV_mono, isV_mono, isV_mono, isV_mono, isV_mono, isV_mono, isV_mono, isV_mono, isV_mono, isV_mono, isV_mono, isV_mono, isV_mono, isV_mono, isV_mono, isV_mono, isV_mono, isV_mono, trivial⟩ ?each ?rest
  case each =>
    refine .cons ?_ (.cons ?_ (.cons ?_ (.cons ?_ (.cons ?_ (.cons ?_ (.cons ?_ (.cons ?_ (.cons ?_ (.cons ?_ (.cons ?_ (.cons ?_ (.cons ?_ (.cons ?_ (.cons ?_ (.cons ?_ (.cons ?_ (.cons ?_ (.cons ?_ (.cons ?_ (.cons ?_ (.nil)))))))))))))))))))))
    · intro fa fw hx hs hb
      have s15 : fa.tmps[(15 : Nat)]? = some (S (c :: r)) := (hb 15 (by kernel_rfl)).trans (by rfl)
      refine .inl ⟨wanted_free rfl, fun K hK => ?_⟩
      clear hs hb hx
      go_simp
      exact hK _ _ rfl (Ext.refl _)
    · intro fa fw hx hs hb
      obtain ⟨_, s67, rfl⟩ := hs 0 67 (by kernel_rfl) (by kernel_rfl)
      refine .inl ⟨wanted_free rfl, fun K hK => ?_⟩
      clear hs hb
      go_simp
      exact hK _ _ rfl (Ext.refl _)
    · intro fa fw hx hs hb
      obtain ⟨_, s68, rfl⟩ := hs 1 68 (by kernel_rfl) (by kernel_rfl)
      refine .inl ⟨wanted_free rfl, fun K hK => ?_⟩
      clear hs hb hx
      go_simp
      exact hK _ _ rfl (Ext.refl _)
    · intro fa fw hx hs hb
      obtain ⟨_, s69, rfl⟩ := hs 2 69 (by kernel_rfl) (by kernel_rfl)
      have s15 : fa.tmps[(15 : Nat)]? = some (S (c :: r)) := (hb 15 (by kernel_rfl)).trans (by rfl)
      refine .inl ⟨wanted_yes 2 false 69 rfl (by kernel_rfl) s69, fun K hK => ?_⟩
      clear hs hb hx
      go_simp
      exact hK _ _ rfl (Ext.refl _)
    · intro fa fw hx hs hb
      obtain ⟨_, s69, rfl⟩ := hs 2 69 (by kernel_rfl) (by kernel_rfl)
      obtain ⟨_, s70, rfl⟩ := hs 3 70 (by kernel_rfl) (by kernel_rfl)
      refine .inl ⟨wanted_yes 2 false 69 rfl (by kernel_rfl) s69, fun K hK => ?_⟩
      clear hs hb
      go_simp
      exact hK _ _ rfl (Ext.refl _)
    · intro fa fw hx hs hb
      obtain ⟨_, s69, rfl⟩ := hs 2 69 (by kernel_rfl) (by kernel_rfl)
      have s13 : fa.tmps[(13 : Nat)]? = some (.slice (some ⟨w.heap.size + 1 + 1 + 1, 0, none⟩) 4 4) := (hb 13 (by kernel_rfl)).trans (by rfl)
      refine .inl ⟨wanted_yes 2 false 69 rfl (by kernel_rfl) s69, fun K hK => ?_⟩
      clear hs hb hx
      go_simp
      exact hK _ _ rfl (Ext.refl _)
    · intro fa fw hx hs hb
      obtain ⟨_, s69, rfl⟩ := hs 2 69 (by kernel_rfl) (by kernel_rfl)
      have s14 : fa.tmps[(14 : Nat)]? = some (.int .i64 2) := (hb 14 (by kernel_rfl)).trans (by rfl)
      refine .inl ⟨wanted_yes 2 false 69 rfl (by kernel_rfl) s69, fun K hK => ?_⟩
      clear hs hb hx
      go_simp
      exact hK _ _ rfl (Ext.refl _)
    · intro fa fw hx hs hb
      obtain ⟨_, s69, rfl⟩ := hs 2 69 (by kernel_rfl) (by kernel_rfl)
      obtain ⟨_, s72, rfl⟩ := hs 5 72 (by kernel_rfl) (by kernel_rfl)
      obtain ⟨_, s73, rfl⟩ := hs 6 73 (by kernel_rfl) (by kernel_rfl)
      refine .inl ⟨wanted_yes 2 false 69 rfl (by kernel_rfl) s69, fun K hK => ?_⟩
      clear hs hb hx
      go_simp
      exact hK _ _ rfl (Ext.refl _)
    · intro fa fw hx hs hb
      obtain ⟨_, s69, rfl⟩ := hs 2 69 (by kernel_rfl) (by kernel_rfl)
      obtain ⟨_, s74, rfl⟩ := hs 7 74 (by kernel_rfl) (by kernel_rfl)
      have c0 := hx.keeps _ _ F0.out
      refine .inl ⟨wanted_yes 2 false 69 rfl (by kernel_rfl) s69, fun K hK => ?_⟩
      clear hs hb hx
      go_simp
      exact hK _ _ rfl (Ext.refl _)
    · intro fa fw hx hs hb
      obtain ⟨_, s69, rfl⟩ := hs 2 69 (by kernel_rfl) (by kernel_rfl)
      obtain ⟨_, s71, rfl⟩ := hs 4 71 (by kernel_rfl) (by kernel_rfl)
      obtain ⟨_, s75, rfl⟩ := hs 8 75 (by kernel_rfl) (by kernel_rfl)
      refine .inl ⟨wanted_yes 2 false 69 rfl (by kernel_rfl) s69, fun K hK => ?_⟩
      clear hs hb
      have hc := HC.out
      go_simp
      refine hK _ _ (boolV (w := fw) ?_) (Ext.refl _)
      simp; omega
    · intro fa fw hx hs hb
      obtain ⟨_, s69, rfl⟩ := hs 2 69 (by kernel_rfl) (by kernel_rfl)
      obtain ⟨_, s76, rfl⟩ := hs 9 76 (by kernel_rfl) (by kernel_rfl)
      refine .inl ⟨wanted_free rfl, fun K hK => ?_⟩
      clear hs hb hx
      go_simp
      exact hK _ _ rfl (Ext.refl _)
    · intro fa fw hx hs hb
      obtain ⟨_, s77, rfl⟩ := hs 10 77 (by kernel_rfl) (by kernel_rfl)
      refine .inl ⟨wanted_free rfl, fun K hK => ?_⟩
      clear hs hb hx
      go_simp
      exact hK _ _ rfl (Ext.refl _)
    · intro fa fw hx hs hb
      obtain ⟨_, s78, rfl⟩ := hs 11 78 (by kernel_rfl) (by kernel_rfl)
      have s15 : fa.tmps[(15 : Nat)]? = some (S (c :: r)) := (hb 15 (by kernel_rfl)).trans (by rfl)
      refine .inl ⟨wanted_yes 11 false 78 rfl (by kernel_rfl) s78, fun K hK => ?_⟩
      clear hs hb hx
      go_simp
      exact hK _ _ rfl (Ext.refl _)
    · intro fa fw hx hs hb
      obtain ⟨_, s78, rfl⟩ := hs 11 78 (by kernel_rfl) (by kernel_rfl)
      obtain ⟨_, s79, rfl⟩ := hs 12 79 (by kernel_rfl) (by kernel_rfl)
      refine .inl ⟨wanted_yes 11 false 78 rfl (by kernel_rfl) s78, fun K hK => ?_⟩
      clear hs hb
      go_simp
      exact hK _ _ rfl (Ext.refl _)
    · intro fa fw hx hs hb
      obtain ⟨_, s78, rfl⟩ := hs 11 78 (by kernel_rfl) (by kernel_rfl)
      have s13 : fa.tmps[(13 : Nat)]? = some (.slice (some ⟨w.heap.size + 1 + 1 + 1, 0, none⟩) 4 4) := (hb 13 (by kernel_rfl)).trans (by rfl)
      refine .inl ⟨wanted_yes 11 false 78 rfl (by kernel_rfl) s78, fun K hK => ?_⟩
      clear hs hb hx
      go_simp
      exact hK _ _ rfl (Ext.refl _)
    · intro fa fw hx hs hb
      obtain ⟨_, s78, rfl⟩ := hs 11 78 (by kernel_rfl) (by kernel_rfl)
      have s14 : fa.tmps[(14 : Nat)]? = some (.int .i64 2) := (hb 14 (by kernel_rfl)).trans (by rfl)
      refine .inl ⟨wanted_yes 11 false 78 rfl (by kernel_rfl) s78, fun K hK => ?_⟩
      clear hs hb hx
      go_simp
      exact hK _ _ rfl (Ext.refl _)
    · intro fa fw hx hs hb
      obtain ⟨_, s78, rfl⟩ := hs 11 78 (by kernel_rfl) (by kernel_rfl)
      obtain ⟨_, s81, rfl⟩ := hs 14 81 (by kernel_rfl) (by kernel_rfl)
      obtain ⟨_, s82, rfl⟩ := hs 15 82 (by kernel_rfl) (by kernel_rfl)
      refine .inl ⟨wanted_yes 11 false 78 rfl (by kernel_rfl) s78, fun K hK => ?_⟩
      clear hs hb hx
      go_simp
      exact hK _ _ rfl (Ext.refl _)
    · intro fa fw hx hs hb
      obtain ⟨_, s78, rfl⟩ := hs 11 78 (by kernel_rfl) (by kernel_rfl)
      obtain ⟨_, s83, rfl⟩ := hs 16 83 (by kernel_rfl) (by kernel_rfl)
      have c0 := hx.keeps _ _ F0.out
      refine .inl ⟨wanted_yes 11 false 78 rfl (by kernel_rfl) s78, fun K hK => ?_⟩
      clear hs hb hx
      go_simp
      exact hK _ _ rfl (Ext.refl _)
    · intro fa fw hx hs hb
      obtain ⟨_, s78, rfl⟩ := hs 11 78 (by kernel_rfl) (by kernel_rfl)
      obtain ⟨_, s84, rfl⟩ := hs 17 84 (by kernel_rfl) (by kernel_rfl)
      refine .inl ⟨wanted_yes 11 false 78 rfl (by kernel_rfl) s78, fun K hK => ?_⟩
      clear hs hb
      go_simp
      exact hK _ _ rfl (Ext.refl _)
    · intro fa fw hx hs hb
      obtain ⟨_, s78, rfl⟩ := hs 11 78 (by kernel_rfl) (by kernel_rfl)
      obtain ⟨_, s80, rfl⟩ := hs 13 80 (by kernel_rfl) (by kernel_rfl)
      obtain ⟨_, s85, rfl⟩ := hs 18 85 (by kernel_rfl) (by kernel_rfl)
      refine .inl ⟨wanted_yes 11 false 78 rfl (by kernel_rfl) s78, fun K hK => ?_⟩
      clear hs hb
      have hc := HC.out
      go_simp
      refine hK _ _ (boolV (w := fw) ?_) (Ext.refl _)
      simp; omega
    · intro fa fw hx hs hb
      obtain ⟨_, s78, rfl⟩ := hs 11 78 (by kernel_rfl) (by kernel_rfl)
      obtain ⟨_, s86, rfl⟩ := hs 19 86 (by kernel_rfl) (by kernel_rfl)
      refine .inl ⟨wanted_free rfl, fun K hK => ?_⟩
      clear hs hb hx
      go_simp
      exact hK _ _ rfl (Ext.refl _)
  case rest =>
    intro w2 hxw2
    rintro _ rfl
    rintro _ rfl
    rintro _ rfl
    rintro _ rfl
    rintro _ rfl
    rintro _ rfl
    rintro _ rfl
    rintro _ rfl
    rintro _ rfl
    rintro _ rfl
    rintro _ rfl
    rintro _ rfl
    rintro _ rfl
    rintro _ rfl
    rintro _ rfl
    rintro _ rfl
    rintro _ rfl
    rintro _ rfl
    rintro _ rfl
    rintro _ rfl
    rintro _ rfl
    simp only [putAll, List.take, Act.put, List.setIfInBounds_toArray, List.set_cons_zero, List.set_cons_succ]
    refine wpAny_done (by kernel_rfl) ?_ _
    go_wp2
    exact bodyPost_ret (v := Pr3 (.slice none 0 0) (S s) (.bool false)) (by simp [results, Tryz.results42, go_sem]) rfl ⟨_, _, rfl, xf.trans hxw2⟩
set_option maxHeartbeats 400000 in
theorem from_w5_0 (w : World) (s : List UInt8) (l : Nat) (hs : s.length ≤ 5000) (hl : l ≤ 13) (hi0 : isP wNothing s = false) (hi1 : isP wPause s = false) (hi2 : isP wHalt s = false) (hi3 : isP wEmit s = false) (hi4 : isP wAwait s = false) (hi5 : isP wIf s = true) {r : List UInt8} (hq : restP wIf s = 120 :: r) {n : Nat} (hN : FromOK n) (hn : l < n) {T : Option (Tr × List UInt8)} (ht : rtwoT (rreadT n) l ⟨7, 0⟩ wThen wElse wEnd r = T) :
    Calls Tryz.prog 42 #[S s, I ((l : Int) + 1)] w (FromPost w (l + 1) T) := by
  have HI0 := Lib.hid hi0; clear hi0
  have HI1 := Lib.hid hi1; clear hi1
  have HI2 := Lib.hid hi2; clear hi2
  have HI3 := Lib.hid hi3; clear hi3
  have HI4 := Lib.hid hi4; clear hi4
  have HI5 := Lib.hid hi5; clear hi5
  have HQ' := Lib.hid hq; clear hq
  have HT' := Lib.hid ht; clear ht
  go_enter Tryz.func42, Tryz.ntmps42
  go_wp2_with fail
  refine wp_loop_rounds 4 ?_
  rw [rounds_succ]
  go_wp2_with fail
  refine (after_any s wNothing (by omega) (by decide) _).mono ?_; rintro e w' ⟨rfl, rfl⟩; rw [HI0.out]
  go_wp2_with fail
  rw [rounds_succ]
  go_wp2_with fail
  refine (after_any s wPause (by omega) (by decide) _).mono ?_; rintro e w' ⟨rfl, rfl⟩; rw [HI1.out]
  go_wp2_with fail
  rw [rounds_succ]
  go_wp2_with fail
  refine (after_any s wHalt (by omega) (by decide) _).mono ?_; rintro e w' ⟨rfl, rfl⟩; rw [HI2.out]
  go_wp2_with fail
  rw [rounds_succ]
  go_wp2_with fail
  rw [rfW_eq]
  have d0 := rfW_word w 0 _ rfl
  have d1 := rfW_word w 1 _ rfl
  have d2 := rfW_word w 2 _ rfl
  have d3 := rfW_word w 3 _ rfl
  have e0 := rfW_kind w 2 _ rfl
  have f0 := rfW_first w 2 _ rfl
  have xf := rfW_ext w
  have hsz := rfW_size w
  generalize rfW w = wf at *
  refine wp_loop_rounds 5 ?_
  rw [rounds_succ]
  go_wp2_with fail
  refine (after_any s wEmit (by omega) (by decide) _).mono ?_; rintro e w' ⟨rfl, rfl⟩; rw [HI3.out]
  go_wp2_with fail
  rw [rounds_succ]
  go_wp2_with fail
  refine (after_any s wAwait (by omega) (by decide) _).mono ?_; rintro e w' ⟨rfl, rfl⟩; rw [HI4.out]
  go_wp2_with fail
  rw [rounds_succ]
  go_hideQ
  go_wp2_with fail
  refine (after_any s wIf (by omega) (by decide) _).mono ?_; rintro e w' ⟨rfl, rfl⟩; rw [HI5.out]
  rw [HQ'.out]
  go_wp2_with fail
  have F0 := Lib.hid f0
  refine wp_flow3 21 0 [isV (S (120 :: r)), isV (.bool false), isV (.bool false), isV (S (120 :: r)), isV (.int .u8 120), isV (.slice (some ⟨w.heap.size + 1 + 1 + 1, 0, none⟩) 4 4), isV (.int .i64 2), isV (.pointer (some ⟨w.heap.size + 1 + 1 + 1, 2, none⟩)), isV (.int .u8 120), isV (.bool false), isV (.bool false), isV (.bool false), isV (S (120 :: r)), isV (.int .u8 120), isV (.slice (some ⟨w.heap.size + 1 + 1 + 1, 0, none⟩) 4 4), isV (.int .i64 2), isV (.pointer (some ⟨w.heap.size + 1 + 1 + 1, 2, none⟩)), isV (.int .u8 120), isV (.int .u8 122), isV (.bool false), isV (.bool false)] (by kernel_rfl) rfl rfl (by kernel_rfl) (by kernel_rfl) ⟨isV_mono, isV_mono, isV_mono, isV_mono, isV_mono, isV_mono, isV_mono, isV_mono, isV_mono, isV_mono, isV_mono, isV_mono, isV_mono, isV_mono, isV_mono, isV_mono, isV_mono, isV_mono, isV_mono, isV_mono, isV_mono, trivial⟩ ?each ?rest
  case each =>
    refine .cons ?_ (.cons ?_ (.cons ?_ (.cons ?_ (.cons ?_ (.cons ?_ (.cons ?_ (.cons ?_ (.cons ?_ (.cons ?_ (.cons ?_ (.cons ?_ (.cons ?_ (.cons ?_ (.cons ?_ (.cons ?_ (.cons ?_ (.cons ?_ (.cons ?_ (.cons ?_ (.cons ?_ (.nil)))))))))))))))))))))
    · intro fa fw hx hs hb
      have s15 : fa.tmps[(15 : Nat)]? = some (S (120 :: r)) := (hb 15 (by kernel_rfl)).trans (by rfl)
      refine .inl ⟨wanted_free rfl, fun K hK => ?_⟩
      clear hs hb hx
      go_simp
      exact hK _ _ rfl (Ext.refl _)
    · intro fa fw hx hs hb
      obtain ⟨_, s67, rfl⟩ := hs 0 67 (by kernel_rfl) (by kernel_rfl)
      refine .inl ⟨wanted_free rfl, fun K hK => ?_⟩
      clear hs hb
      go_simp
      exact hK _ _ rfl (Ext.refl _)
    · intro fa fw hx hs hb
      obtain ⟨_, s68, rfl⟩ := hs 1 68 (by kernel_rfl) (by kernel_rfl)
      refine .inl ⟨wanted_free rfl, fun K hK => ?_⟩
      clear hs hb hx
      go_simp
      exact hK _ _ rfl (Ext.refl _)
    · intro fa fw hx hs hb
      obtain ⟨_, s69, rfl⟩ := hs 2 69 (by kernel_rfl) (by kernel_rfl)
      have s15 : fa.tmps[(15 : Nat)]? = some (S (120 :: r)) := (hb 15 (by kernel_rfl)).trans (by rfl)
      refine .inl ⟨wanted_yes 2 false 69 rfl (by kernel_rfl) s69, fun K hK => ?_⟩
      clear hs hb hx
      go_simp
      exact hK _ _ rfl (Ext.refl _)
    · intro fa fw hx hs hb
      obtain ⟨_, s69, rfl⟩ := hs 2 69 (by kernel_rfl) (by kernel_rfl)
      obtain ⟨_, s70, rfl⟩ := hs 3 70 (by kernel_rfl) (by kernel_rfl)
      refine .inl ⟨wanted_yes 2 false 69 rfl (by kernel_rfl) s69, fun K hK => ?_⟩
      clear hs hb
      go_simp
      exact hK _ _ rfl (Ext.refl _)
    · intro fa fw hx hs hb
      obtain ⟨_, s69, rfl⟩ := hs 2 69 (by kernel_rfl) (by kernel_rfl)
      have s13 : fa.tmps[(13 : Nat)]? = some (.slice (some ⟨w.heap.size + 1 + 1 + 1, 0, none⟩) 4 4) := (hb 13 (by kernel_rfl)).trans (by rfl)
      refine .inl ⟨wanted_yes 2 false 69 rfl (by kernel_rfl) s69, fun K hK => ?_⟩
      clear hs hb hx
      go_simp
      exact hK _ _ rfl (Ext.refl _)
    · intro fa fw hx hs hb
      obtain ⟨_, s69, rfl⟩ := hs 2 69 (by kernel_rfl) (by kernel_rfl)
      have s14 : fa.tmps[(14 : Nat)]? = some (.int .i64 2) := (hb 14 (by kernel_rfl)).trans (by rfl)
      refine .inl ⟨wanted_yes 2 false 69 rfl (by kernel_rfl) s69, fun K hK => ?_⟩
      clear hs hb hx
      go_simp
      exact hK _ _ rfl (Ext.refl _)
    · intro fa fw hx hs hb
      obtain ⟨_, s69, rfl⟩ := hs 2 69 (by kernel_rfl) (by kernel_rfl)
      obtain ⟨_, s72, rfl⟩ := hs 5 72 (by kernel_rfl) (by kernel_rfl)
      obtain ⟨_, s73, rfl⟩ := hs 6 73 (by kernel_rfl) (by kernel_rfl)
      refine .inl ⟨wanted_yes 2 false 69 rfl (by kernel_rfl) s69, fun K hK => ?_⟩
      clear hs hb hx
      go_simp
      exact hK _ _ rfl (Ext.refl _)
    · intro fa fw hx hs hb
      obtain ⟨_, s69, rfl⟩ := hs 2 69 (by kernel_rfl) (by kernel_rfl)
      obtain ⟨_, s74, rfl⟩ := hs 7 74 (by kernel_rfl) (by kernel_rfl)
      have c0 := hx.keeps _ _ F0.out
      refine .inl ⟨wanted_yes 2 false 69 rfl (by kernel_rfl) s69, fun K hK => ?_⟩
      clear hs hb hx
      go_simp
      exact hK _ _ rfl (Ext.refl _)
    · intro fa fw hx hs hb
      obtain ⟨_, s69, rfl⟩ := hs 2 69 (by kernel_rfl) (by kernel_rfl)
      obtain ⟨_, s71, rfl⟩ := hs 4 71 (by kernel_rfl) (by kernel_rfl)
      obtain ⟨_, s75, rfl⟩ := hs 8 75 (by kernel_rfl) (by kernel_rfl)
      refine .inl ⟨wanted_yes 2 false 69 rfl (by kernel_rfl) s69, fun K hK => ?_⟩
      clear hs hb
      go_simp
      exact hK _ _ rfl (Ext.refl _)
    · intro fa fw hx hs hb
      obtain ⟨_, s69, rfl⟩ := hs 2 69 (by kernel_rfl) (by kernel_rfl)
      obtain ⟨_, s76, rfl⟩ := hs 9 76 (by kernel_rfl) (by kernel_rfl)
      refine .inl ⟨wanted_free rfl, fun K hK => ?_⟩
      clear hs hb hx
      go_simp
      exact hK _ _ rfl (Ext.refl _)
    · intro fa fw hx hs hb
      obtain ⟨_, s77, rfl⟩ := hs 10 77 (by kernel_rfl) (by kernel_rfl)
      refine .inl ⟨wanted_free rfl, fun K hK => ?_⟩
      clear hs hb hx
      go_simp
      exact hK _ _ rfl (Ext.refl _)
    · intro fa fw hx hs hb
      obtain ⟨_, s78, rfl⟩ := hs 11 78 (by kernel_rfl) (by kernel_rfl)
      have s15 : fa.tmps[(15 : Nat)]? = some (S (120 :: r)) := (hb 15 (by kernel_rfl)).trans (by rfl)
      refine .inl ⟨wanted_yes 11 false 78 rfl (by kernel_rfl) s78, fun K hK => ?_⟩
      clear hs hb hx
      go_simp
      exact hK _ _ rfl (Ext.refl _)
    · intro fa fw hx hs hb
      obtain ⟨_, s78, rfl⟩ := hs 11 78 (by kernel_rfl) (by kernel_rfl)
      obtain ⟨_, s79, rfl⟩ := hs 12 79 (by kernel_rfl) (by kernel_rfl)
      refine .inl ⟨wanted_yes 11 false 78 rfl (by kernel_rfl) s78, fun K hK => ?_⟩
      clear hs hb
      go_simp
      exact hK _ _ rfl (Ext.refl _)
    · intro fa fw hx hs hb
      obtain ⟨_, s78, rfl⟩ := hs 11 78 (by kernel_rfl) (by kernel_rfl)
      have s13 : fa.tmps[(13 : Nat)]? = some (.slice (some ⟨w.heap.size + 1 + 1 + 1, 0, none⟩) 4 4) := (hb 13 (by kernel_rfl)).trans (by rfl)
      refine .inl ⟨wanted_yes 11 false 78 rfl (by kernel_rfl) s78, fun K hK => ?_⟩
      clear hs hb hx
      go_simp
      exact hK _ _ rfl (Ext.refl _)
    · intro fa fw hx hs hb
      obtain ⟨_, s78, rfl⟩ := hs 11 78 (by kernel_rfl) (by kernel_rfl)
      have s14 : fa.tmps[(14 : Nat)]? = some (.int .i64 2) := (hb 14 (by kernel_rfl)).trans (by rfl)
      refine .inl ⟨wanted_yes 11 false 78 rfl (by kernel_rfl) s78, fun K hK => ?_⟩
      clear hs hb hx
      go_simp
      exact hK _ _ rfl (Ext.refl _)
    · intro fa fw hx hs hb
      obtain ⟨_, s78, rfl⟩ := hs 11 78 (by kernel_rfl) (by kernel_rfl)
      obtain ⟨_, s81, rfl⟩ := hs 14 81 (by kernel_rfl) (by kernel_rfl)
      obtain ⟨_, s82, rfl⟩ := hs 15 82 (by kernel_rfl) (by kernel_rfl)
      refine .inl ⟨wanted_yes 11 false 78 rfl (by kernel_rfl) s78, fun K hK => ?_⟩
      clear hs hb hx
      go_simp
      exact hK _ _ rfl (Ext.refl _)
    · intro fa fw hx hs hb
      obtain ⟨_, s78, rfl⟩ := hs 11 78 (by kernel_rfl) (by kernel_rfl)
      obtain ⟨_, s83, rfl⟩ := hs 16 83 (by kernel_rfl) (by kernel_rfl)
      have c0 := hx.keeps _ _ F0.out
      refine .inl ⟨wanted_yes 11 false 78 rfl (by kernel_rfl) s78, fun K hK => ?_⟩
      clear hs hb hx
      go_simp
      exact hK _ _ rfl (Ext.refl _)
    · intro fa fw hx hs hb
      obtain ⟨_, s78, rfl⟩ := hs 11 78 (by kernel_rfl) (by kernel_rfl)
      obtain ⟨_, s84, rfl⟩ := hs 17 84 (by kernel_rfl) (by kernel_rfl)
      refine .inl ⟨wanted_yes 11 false 78 rfl (by kernel_rfl) s78, fun K hK => ?_⟩
      clear hs hb
      go_simp
      exact hK _ _ rfl (Ext.refl _)
    · intro fa fw hx hs hb
      obtain ⟨_, s78, rfl⟩ := hs 11 78 (by kernel_rfl) (by kernel_rfl)
      obtain ⟨_, s80, rfl⟩ := hs 13 80 (by kernel_rfl) (by kernel_rfl)
      obtain ⟨_, s85, rfl⟩ := hs 18 85 (by kernel_rfl) (by kernel_rfl)
      refine .inl ⟨wanted_yes 11 false 78 rfl (by kernel_rfl) s78, fun K hK => ?_⟩
      clear hs hb
      go_simp
      exact hK _ _ rfl (Ext.refl _)
    · intro fa fw hx hs hb
      obtain ⟨_, s78, rfl⟩ := hs 11 78 (by kernel_rfl) (by kernel_rfl)
      obtain ⟨_, s86, rfl⟩ := hs 19 86 (by kernel_rfl) (by kernel_rfl)
      refine .inl ⟨wanted_free rfl, fun K hK => ?_⟩
      clear hs hb hx
      go_simp
      exact hK _ _ rfl (Ext.refl _)
  case rest =>
    intro w2 hxw2
    rintro _ rfl
    rintro _ rfl
    rintro _ rfl
    rintro _ rfl
    rintro _ rfl
    rintro _ rfl
    rintro _ rfl
    rintro _ rfl
    rintro _ rfl
    rintro _ rfl
    rintro _ rfl
    rintro _ rfl
    rintro _ rfl
    rintro _ rfl
    rintro _ rfl
    rintro _ rfl
    rintro _ rfl
    rintro _ rfl
    rintro _ rfl
    rintro _ rfl
    rintro _ rfl
    simp only [putAll, List.take, Act.put, List.setIfInBounds_toArray, List.set_cons_zero, List.set_cons_succ]
    refine wpAny_done (by kernel_rfl) ?_ _
    go_wp2_with fail
    have F1 := Lib.hid (hxw2.keeps _ _ F0.out); have E1 := Lib.hid (hxw2.keeps _ _ e0)
    refine wp_flow3 14 1 [isV (.slice (some ⟨w.heap.size + 1 + 1, 0, none⟩) 4 4), isV (.int .i64 2), isV (.pointer (some ⟨w.heap.size + 1 + 1, 2, none⟩)), isV (.int .i64 7), isV (S (120 :: r)), isV (.int .u8 120), isV (.slice (some ⟨w.heap.size + 1 + 1 + 1, 0, none⟩) 4 4), isV (.int .i64 2), isV (.pointer (some ⟨w.heap.size + 1 + 1 + 1, 2, none⟩)), isV (.int .u8 120), isV (.int .u8 0), isV (.int .i64 0), isV (.agg #[.int .i64 7, .int .i64 0]), fun v w => ∃ b, v = .pointer (some ⟨b, 0, none⟩) ∧ w2.heap.size ≤ b ∧ w.cell? ⟨b, 0, none⟩ = some (I 0) ∧ w.cell? ⟨b, 1, none⟩ = some (I 0) ∧ w.frozen? ⟨b, 0, none⟩ = false ∧ w.frozen? ⟨b, 1, none⟩ = false] (by kernel_rfl) rfl rfl (by kernel_rfl) (by kernel_rfl) ⟨isV_mono, isV_mono, isV_mono, isV_mono, isV_mono, isV_mono, isV_mono, isV_mono, isV_mono, isV_mono, isV_mono, isV_mono, isV_mono, fun v w w' ⟨b, e, h0, h1, h2, h3, h4⟩ hx => ⟨b, e, h0, hx.keeps _ _ h1, hx.keeps _ _ h2, (Below.frozen (p := ⟨b, 0, none⟩) hx (lt_of_cell h1)).trans h3, (Below.frozen (p := ⟨b, 1, none⟩) hx (lt_of_cell h2)).trans h4⟩, trivial⟩ ?each ?rest
    case each =>
      refine .cons ?_ (.cons ?_ (.cons ?_ (.cons ?_ (.cons ?_ (.cons ?_ (.cons ?_ (.cons ?_ (.cons ?_ (.cons ?_ (.cons ?_ (.cons ?_ (.cons ?_ (.cons ?_ (.nil))))))))))))))
      · intro fa fw hx hs hb
        have s12 : fa.tmps[(12 : Nat)]? = some (.slice (some ⟨w.heap.size + 1 + 1, 0, none⟩) 4 4) := (hb 12 (by kernel_rfl)).trans (by rfl)
        refine .inl ⟨wanted_free rfl, fun K hK => ?_⟩
        clear hs hb hx
        go_simp
        exact hK _ _ rfl (Ext.refl _)
      · intro fa fw hx hs hb
        have s14 : fa.tmps[(14 : Nat)]? = some (.int .i64 2) := (hb 14 (by kernel_rfl)).trans (by rfl)
        refine .inl ⟨wanted_free rfl, fun K hK => ?_⟩
        clear hs hb hx
        go_simp
        exact hK _ _ rfl (Ext.refl _)
      · intro fa fw hx hs hb
        obtain ⟨_, s89, rfl⟩ := hs 0 89 (by kernel_rfl) (by kernel_rfl)
        obtain ⟨_, s90, rfl⟩ := hs 1 90 (by kernel_rfl) (by kernel_rfl)
        refine .inl ⟨wanted_free rfl, fun K hK => ?_⟩
        clear hs hb hx
        go_simp
        exact hK _ _ rfl (Ext.refl _)
      · intro fa fw hx hs hb
        obtain ⟨_, s91, rfl⟩ := hs 2 91 (by kernel_rfl) (by kernel_rfl)
        have c0 := hx.keeps _ _ E1.out
        refine .inl ⟨wanted_free rfl, fun K hK => ?_⟩
        clear hs hb hx
        go_simp
        exact hK _ _ rfl (Ext.refl _)
      · intro fa fw hx hs hb
        have s15 : fa.tmps[(15 : Nat)]? = some (S (120 :: r)) := (hb 15 (by kernel_rfl)).trans (by rfl)
        refine .inl ⟨wanted_free rfl, fun K hK => ?_⟩
        clear hs hb hx
        go_simp
        exact hK _ _ rfl (Ext.refl _)
      · intro fa fw hx hs hb
        obtain ⟨_, s93, rfl⟩ := hs 4 93 (by kernel_rfl) (by kernel_rfl)
        refine .inl ⟨wanted_free rfl, fun K hK => ?_⟩
        clear hs hb
        go_simp
        exact hK _ _ rfl (Ext.refl _)
      · intro fa fw hx hs hb
        have s13 : fa.tmps[(13 : Nat)]? = some (.slice (some ⟨w.heap.size + 1 + 1 + 1, 0, none⟩) 4 4) := (hb 13 (by kernel_rfl)).trans (by rfl)
        refine .inl ⟨wanted_free rfl, fun K hK => ?_⟩
        clear hs hb hx
        go_simp
        exact hK _ _ rfl (Ext.refl _)
      · intro fa fw hx hs hb
        have s14 : fa.tmps[(14 : Nat)]? = some (.int .i64 2) := (hb 14 (by kernel_rfl)).trans (by rfl)
        refine .inl ⟨wanted_free rfl, fun K hK => ?_⟩
        clear hs hb hx
        go_simp
        exact hK _ _ rfl (Ext.refl _)
      · intro fa fw hx hs hb
        obtain ⟨_, s95, rfl⟩ := hs 6 95 (by kernel_rfl) (by kernel_rfl)
        obtain ⟨_, s96, rfl⟩ := hs 7 96 (by kernel_rfl) (by kernel_rfl)
        refine .inl ⟨wanted_free rfl, fun K hK => ?_⟩
        clear hs hb hx
        go_simp
        exact hK _ _ rfl (Ext.refl _)
      · intro fa fw hx hs hb
        obtain ⟨_, s97, rfl⟩ := hs 8 97 (by kernel_rfl) (by kernel_rfl)
        have c0 := hx.keeps _ _ F1.out
        refine .inl ⟨wanted_free rfl, fun K hK => ?_⟩
        clear hs hb hx
        go_simp
        exact hK _ _ rfl (Ext.refl _)
      · intro fa fw hx hs hb
        obtain ⟨_, s94, rfl⟩ := hs 5 94 (by kernel_rfl) (by kernel_rfl)
        obtain ⟨_, s98, rfl⟩ := hs 9 98 (by kernel_rfl) (by kernel_rfl)
        refine .inl ⟨wanted_free rfl, fun K hK => ?_⟩
        clear hs hb
        go_simp
        exact hK _ _ rfl (Ext.refl _)
      · intro fa fw hx hs hb
        obtain ⟨_, s99, rfl⟩ := hs 10 99 (by kernel_rfl) (by kernel_rfl)
        refine .inl ⟨wanted_free rfl, fun K hK => ?_⟩
        clear hs hb
        go_simp
        exact hK _ _ rfl (Ext.refl _)
      · intro fa fw hx hs hb
        obtain ⟨_, s92, rfl⟩ := hs 3 92 (by kernel_rfl) (by kernel_rfl)
        obtain ⟨_, s100, rfl⟩ := hs 11 100 (by kernel_rfl) (by kernel_rfl)
        refine .inl ⟨wanted_free rfl, fun K hK => ?_⟩
        clear hs hb
        go_simp
        exact hK _ _ rfl (Ext.refl _)
      · intro fa fw hx hs hb
        refine .inl ⟨wanted_free rfl, fun K hK => ?_⟩
        clear hs hb
        go_simp
        exact hK _ _ ⟨_, rfl, hx.size, by rw [World.cell?_alloc_new]; rfl, by rw [World.cell?_alloc_new]; rfl, World.frozen?_alloc_at _ _ _ _ rfl, World.frozen?_alloc_at _ _ _ _ rfl⟩ ((Ext.refl _).alloc _)
    case rest =>
      intro w3 hxw3
      rintro _ rfl
      rintro _ rfl
      rintro _ rfl
      rintro _ rfl
      rintro _ rfl
      rintro _ rfl
      rintro _ rfl
      rintro _ rfl
      rintro _ rfl
      rintro _ rfl
      rintro _ rfl
      rintro _ rfl
      rintro _ rfl
      rintro _ ⟨b17, rfl, q17⟩
      simp only [putAll, List.take, Act.put, List.setIfInBounds_toArray, List.set_cons_zero, List.set_cons_succ]
      obtain ⟨qb0, qb1, qb2, qb3, qb4⟩ := q17
      refine wpAny_ready (rs := [14]) (by kernel_rfl) (by simp) (AllReady.cons rfl (fun KK hKK => ?_) AllReady.nil)
      go_simp
      refine hKK _ _ ?_
      clear hKK KK
      refine wpAny_done (by kernel_rfl) ?_ _
      have k0 : ((w3.setCell ⟨b17, 0, none⟩ (.int .i64 7)).setCell ⟨b17, 1, none⟩ (.int .i64 0)).cell? ⟨b17, 0, none⟩ = some (.int .i64 7) := (World.cell?_setCell_other _ _ _ _ (by simp)).trans (World.cell?_setCell_same _ _ _ qb1)
      have k1 : ((w3.setCell ⟨b17, 0, none⟩ (.int .i64 7)).setCell ⟨b17, 1, none⟩ (.int .i64 0)).cell? ⟨b17, 1, none⟩ = some (.int .i64 0) := World.cell?_setCell_same _ _ _ ((World.cell?_setCell_other _ _ _ _ (by simp)).trans qb2)
      have x4 : Ext w ((w3.setCell ⟨b17, 0, none⟩ (.int .i64 7)).setCell ⟨b17, 1, none⟩ (.int .i64 0)) := (((xf.trans hxw2).trans hxw3).setCell (by show w.heap.size ≤ b17; have := (xf.trans hxw2).size; omega) _).setCell (by show w.heap.size ≤ b17; have := (xf.trans hxw2).size; omega) _
      generalize (w3.setCell ⟨b17, 0, none⟩ (.int .i64 7)).setCell ⟨b17, 1, none⟩ (.int .i64 0) = w4 at *
      clear qb1 qb2 qb3 qb4
      have hrl : r.length ≤ 5000 := by have := rest_len wIf s; rw [HQ'.out] at this; simp at this; omega
      go_wp2_with fail
      rw [ba_tail1]
      refine (twoR_any hN w4 ⟨7, 0⟩ r wThen wElse wEnd l hrl (by decide) (by decide) (by decide) hl hn).mono ?_
      rintro e w5 h5
      rw [HT'.out] at h5
      rcases T with _ | q
      · obtain ⟨u, v, rfl, x5⟩ := h5
        go_wp2
        exact bodyPost_ret (v := Pr3 u v (.bool false)) (by simp [results, Tryz.results42, go_sem]) rfl ⟨_, _, rfl, x4.trans x5⟩
      · obtain ⟨A, c, rfl, y1, y2, y3, y4, y5, x5⟩ := h5
        go_wp2
        exact bodyPost_ret (v := Pr3 (.slice A q.1.size c) (S q.2) (.bool true)) (by simp [results, Tryz.results42, go_sem]) rfl ⟨A, c, rfl, y1, y2, y3, y4, y5, x4.trans x5⟩
set_option maxHeartbeats 400000 in
theorem from_w5_1 (w : World) (s : List UInt8) (l : Nat) (hs : s.length ≤ 5000) (hl : l ≤ 13) (hi0 : isP wNothing s = false) (hi1 : isP wPause s = false) (hi2 : isP wHalt s = false) (hi3 : isP wEmit s = false) (hi4 : isP wAwait s = false) (hi5 : isP wIf s = true) {r : List UInt8} (hq : restP wIf s = 121 :: r) {n : Nat} (hN : FromOK n) (hn : l < n) {T : Option (Tr × List UInt8)} (ht : rtwoT (rreadT n) l ⟨7, 1⟩ wThen wElse wEnd r = T) :
    Calls Tryz.prog 42 #[S s, I ((l : Int) + 1)] w (FromPost w (l + 1) T) := by
  have HI0 := Lib.hid hi0; clear hi0
  have HI1 := Lib.hid hi1; clear hi1
  have HI2 := Lib.hid hi2; clear hi2
  have HI3 := Lib.hid hi3; clear hi3
  have HI4 := Lib.hid hi4; clear hi4
  have HI5 := Lib.hid hi5; clear hi5
  have HQ' := Lib.hid hq; clear hq
  have HT' := Lib.hid ht; clear ht
  go_enter Tryz.func42, Tryz.ntmps42
  go_wp2_with fail
  refine wp_loop_rounds 4 ?_
  rw [rounds_succ]
  go_wp2_with fail
  refine (after_any s wNothing (by omega) (by decide) _).mono ?_; rintro e w' ⟨rfl, rfl⟩; rw [HI0.out]
  go_wp2_with fail
  rw [rounds_succ]
  go_wp2_with fail
  refine (after_any s wPause (by omega) (by decide) _).mono ?_; rintro e w' ⟨rfl, rfl⟩; rw [HI1.out]
  go_wp2_with fail
  rw [rounds_succ]
  go_wp2_with fail
  refine (after_any s wHalt (by omega) (by decide) _).mono ?_; rintro e w' ⟨rfl, rfl⟩; rw [HI2.out]
  go_wp2_with fail
  rw [rounds_succ]
  go_wp2_with fail
  rw [rfW_eq]
  have d0 := rfW_word w 0 _ rfl
  have d1 := rfW_word w 1 _ rfl
  have d2 := rfW_word w 2 _ rfl
  have d3 := rfW_word w 3 _ rfl
  have e0 := rfW_kind w 2 _ rfl
  have f0 := rfW_first w 2 _ rfl
  have xf := rfW_ext w
  have hsz := rfW_size w
  generalize rfW w = wf at *
  refine wp_loop_rounds 5 ?_
  rw [rounds_succ]
  go_wp2_with fail
  refine (after_any s wEmit (by omega) (by decide) _).mono ?_; rintro e w' ⟨rfl, rfl⟩; rw [HI3.out]
  go_wp2_with fail
  rw [rounds_succ]
  go_wp2_with fail
  refine (after_any s wAwait (by omega) (by decide) _).mono ?_; rintro e w' ⟨rfl, rfl⟩; rw [HI4.out]
  go_wp2_with fail
  rw [rounds_succ]
  go_hideQ
  go_wp2_with fail
  refine (after_any s wIf (by omega) (by decide) _).mono ?_; rintro e w' ⟨rfl, rfl⟩; rw [HI5.out]
  rw [HQ'.out]
  go_wp2_with fail
  have F0 := Lib.hid f0
  refine wp_flow3 21 0 [isV (S (121 :: r)), isV (.bool false), isV (.bool false), isV (S (121 :: r)), isV (.int .u8 121), isV (.slice (some ⟨w.heap.size + 1 + 1 + 1, 0, none⟩) 4 4), isV (.int .i64 2), isV (.pointer (some ⟨w.heap.size + 1 + 1 + 1, 2, none⟩)), isV (.int .u8 120), isV (.bool false), isV (.bool false), isV (.bool false), isV (S (121 :: r)), isV (.int .u8 121), isV (.slice (some ⟨w.heap.size + 1 + 1 + 1, 0, none⟩) 4 4), isV (.int .i64 2), isV (.pointer (some ⟨w.heap.size + 1 + 1 + 1, 2, none⟩)), isV (.int .u8 120), isV (.int .u8 122), isV (.bool false), isV (.bool false)] (by kernel_rfl) rfl rfl (by kernel_rfl) (by kernel_rfl) ⟨isV_mono, isV_mono, isV_mono, isV_mono, isV_mono, isV_mono, isV_mono, isV_mono, isV_mono, isV_mono, isV_mono, isV_mono, isV_mono, isV_mono, isV_mono, isV_mono, isV_mono, isV_mono, isV_mono, isV_mono, isV_mono, trivial⟩ ?each ?rest
  case each =>
    refine .cons ?_ (.cons ?_ (.cons ?_ (.cons ?_ (.cons ?_ (.cons ?_ (.cons ?_ (.cons ?_ (.cons ?_ (.cons ?_ (.cons ?_ (.cons ?_ (.cons ?_ (.cons ?_ (.cons ?_ (.cons ?_ (.cons ?_ (.cons ?_ (.cons ?_ (.cons ?_ (.cons ?_ (.nil)))))))))))))))))))))
    · intro fa fw hx hs hb
      have s15 : fa.tmps[(15 : Nat)]? = some (S (121 :: r)) := (hb 15 (by kernel_rfl)).trans (by rfl)
      refine .inl ⟨wanted_free rfl, fun K hK => ?_⟩
      clear hs hb hx
      go_simp
      exact hK _ _ rfl (Ext.refl _)
    · intro fa fw hx hs hb
      obtain ⟨_, s67, rfl⟩ := hs 0 67 (by kernel_rfl) (by kernel_rfl)
      refine .inl ⟨wanted_free rfl, fun K hK => ?_⟩
      clear hs hb
      go_simp
      exact hK _ _ rfl (Ext.refl _)
    · intro fa fw hx hs hb
      obtain ⟨_, s68, rfl⟩ := hs 1 68 (by kernel_rfl) (by kernel_rfl)
      refine .inl ⟨wanted_free rfl, fun K hK => ?_⟩
      clear hs hb hx
      go_simp
      exact hK _ _ rfl (Ext.refl _)
    · intro fa fw hx hs hb
      obtain ⟨_, s69, rfl⟩ := hs 2 69 (by kernel_rfl) (by kernel_rfl)
      have s15 : fa.tmps[(15 : Nat)]? = some (S (121 :: r)) := (hb 15 (by kernel_rfl)).trans (by rfl)
      refine .inl ⟨wanted_yes 2 false 69 rfl (by kernel_rfl) s69, fun K hK => ?_⟩
      clear hs hb hx
      go_simp
      exact hK _ _ rfl (Ext.refl _)
    · intro fa fw hx hs hb
      obtain ⟨_, s69, rfl⟩ := hs 2 69 (by kernel_rfl) (by kernel_rfl)
      obtain ⟨_, s70, rfl⟩ := hs 3 70 (by kernel_rfl) (by kernel_rfl)
      refine .inl ⟨wanted_yes 2 false 69 rfl (by kernel_rfl) s69, fun K hK => ?_⟩
      clear hs hb
      go_simp
      exact hK _ _ rfl (Ext.refl _)
    · intro fa fw hx hs hb
      obtain ⟨_, s69, rfl⟩ := hs 2 69 (by kernel_rfl) (by kernel_rfl)
      have s13 : fa.tmps[(13 : Nat)]? = some (.slice (some ⟨w.heap.size + 1 + 1 + 1, 0, none⟩) 4 4) := (hb 13 (by kernel_rfl)).trans (by rfl)
      refine .inl ⟨wanted_yes 2 false 69 rfl (by kernel_rfl) s69, fun K hK => ?_⟩
      clear hs hb hx
      go_simp
      exact hK _ _ rfl (Ext.refl _)
    · intro fa fw hx hs hb
      obtain ⟨_, s69, rfl⟩ := hs 2 69 (by kernel_rfl) (by kernel_rfl)
      have s14 : fa.tmps[(14 : Nat)]? = some (.int .i64 2) := (hb 14 (by kernel_rfl)).trans (by rfl)
      refine .inl ⟨wanted_yes 2 false 69 rfl (by kernel_rfl) s69, fun K hK => ?_⟩
      clear hs hb hx
      go_simp
      exact hK _ _ rfl (Ext.refl _)
    · intro fa fw hx hs hb
      obtain ⟨_, s69, rfl⟩ := hs 2 69 (by kernel_rfl) (by kernel_rfl)
      obtain ⟨_, s72, rfl⟩ := hs 5 72 (by kernel_rfl) (by kernel_rfl)
      obtain ⟨_, s73, rfl⟩ := hs 6 73 (by kernel_rfl) (by kernel_rfl)
      refine .inl ⟨wanted_yes 2 false 69 rfl (by kernel_rfl) s69, fun K hK => ?_⟩
      clear hs hb hx
      go_simp
      exact hK _ _ rfl (Ext.refl _)
    · intro fa fw hx hs hb
      obtain ⟨_, s69, rfl⟩ := hs 2 69 (by kernel_rfl) (by kernel_rfl)
      obtain ⟨_, s74, rfl⟩ := hs 7 74 (by kernel_rfl) (by kernel_rfl)
      have c0 := hx.keeps _ _ F0.out
      refine .inl ⟨wanted_yes 2 false 69 rfl (by kernel_rfl) s69, fun K hK => ?_⟩
      clear hs hb hx
      go_simp
      exact hK _ _ rfl (Ext.refl _)
    · intro fa fw hx hs hb
      obtain ⟨_, s69, rfl⟩ := hs 2 69 (by kernel_rfl) (by kernel_rfl)
      obtain ⟨_, s71, rfl⟩ := hs 4 71 (by kernel_rfl) (by kernel_rfl)
      obtain ⟨_, s75, rfl⟩ := hs 8 75 (by kernel_rfl) (by kernel_rfl)
      refine .inl ⟨wanted_yes 2 false 69 rfl (by kernel_rfl) s69, fun K hK => ?_⟩
      clear hs hb
      go_simp
      exact hK _ _ rfl (Ext.refl _)
    · intro fa fw hx hs hb
      obtain ⟨_, s69, rfl⟩ := hs 2 69 (by kernel_rfl) (by kernel_rfl)
      obtain ⟨_, s76, rfl⟩ := hs 9 76 (by kernel_rfl) (by kernel_rfl)
      refine .inl ⟨wanted_free rfl, fun K hK => ?_⟩
      clear hs hb hx
      go_simp
      exact hK _ _ rfl (Ext.refl _)
    · intro fa fw hx hs hb
      obtain ⟨_, s77, rfl⟩ := hs 10 77 (by kernel_rfl) (by kernel_rfl)
      refine .inl ⟨wanted_free rfl, fun K hK => ?_⟩
      clear hs hb hx
      go_simp
      exact hK _ _ rfl (Ext.refl _)
    · intro fa fw hx hs hb
      obtain ⟨_, s78, rfl⟩ := hs 11 78 (by kernel_rfl) (by kernel_rfl)
      have s15 : fa.tmps[(15 : Nat)]? = some (S (121 :: r)) := (hb 15 (by kernel_rfl)).trans (by rfl)
      refine .inl ⟨wanted_yes 11 false 78 rfl (by kernel_rfl) s78, fun K hK => ?_⟩
      clear hs hb hx
      go_simp
      exact hK _ _ rfl (Ext.refl _)
    · intro fa fw hx hs hb
      obtain ⟨_, s78, rfl⟩ := hs 11 78 (by kernel_rfl) (by kernel_rfl)
      obtain ⟨_, s79, rfl⟩ := hs 12 79 (by kernel_rfl) (by kernel_rfl)
      refine .inl ⟨wanted_yes 11 false 78 rfl (by kernel_rfl) s78, fun K hK => ?_⟩
      clear hs hb
      go_simp
      exact hK _ _ rfl (Ext.refl _)
    · intro fa fw hx hs hb
      obtain ⟨_, s78, rfl⟩ := hs 11 78 (by kernel_rfl) (by kernel_rfl)
      have s13 : fa.tmps[(13 : Nat)]? = some (.slice (some ⟨w.heap.size + 1 + 1 + 1, 0, none⟩) 4 4) := (hb 13 (by kernel_rfl)).trans (by rfl)
      refine .inl ⟨wanted_yes 11 false 78 rfl (by kernel_rfl) s78, fun K hK => ?_⟩
      clear hs hb hx
      go_simp
      exact hK _ _ rfl (Ext.refl _)
    · intro fa fw hx hs hb
      obtain ⟨_, s78, rfl⟩ := hs 11 78 (by kernel_rfl) (by kernel_rfl)
      have s14 : fa.tmps[(14 : Nat)]? = some (.int .i64 2) := (hb 14 (by kernel_rfl)).trans (by rfl)
      refine .inl ⟨wanted_yes 11 false 78 rfl (by kernel_rfl) s78, fun K hK => ?_⟩
      clear hs hb hx
      go_simp
      exact hK _ _ rfl (Ext.refl _)
    · intro fa fw hx hs hb
      obtain ⟨_, s78, rfl⟩ := hs 11 78 (by kernel_rfl) (by kernel_rfl)
      obtain ⟨_, s81, rfl⟩ := hs 14 81 (by kernel_rfl) (by kernel_rfl)
      obtain ⟨_, s82, rfl⟩ := hs 15 82 (by kernel_rfl) (by kernel_rfl)
      refine .inl ⟨wanted_yes 11 false 78 rfl (by kernel_rfl) s78, fun K hK => ?_⟩
      clear hs hb hx
      go_simp
      exact hK _ _ rfl (Ext.refl _)
    · intro fa fw hx hs hb
      obtain ⟨_, s78, rfl⟩ := hs 11 78 (by kernel_rfl) (by kernel_rfl)
      obtain ⟨_, s83, rfl⟩ := hs 16 83 (by kernel_rfl) (by kernel_rfl)
      have c0 := hx.keeps _ _ F0.out
      refine .inl ⟨wanted_yes 11 false 78 rfl (by kernel_rfl) s78, fun K hK => ?_⟩
      clear hs hb hx
      go_simp
      exact hK _ _ rfl (Ext.refl _)
    · intro fa fw hx hs hb
      obtain ⟨_, s78, rfl⟩ := hs 11 78 (by kernel_rfl) (by kernel_rfl)
      obtain ⟨_, s84, rfl⟩ := hs 17 84 (by kernel_rfl) (by kernel_rfl)
      refine .inl ⟨wanted_yes 11 false 78 rfl (by kernel_rfl) s78, fun K hK => ?_⟩
      clear hs hb
      go_simp
      exact hK _ _ rfl (Ext.refl _)
    · intro fa fw hx hs hb
      obtain ⟨_, s78, rfl⟩ := hs 11 78 (by kernel_rfl) (by kernel_rfl)
      obtain ⟨_, s80, rfl⟩ := hs 13 80 (by kernel_rfl) (by kernel_rfl)
      obtain ⟨_, s85, rfl⟩ := hs 18 85 (by kernel_rfl) (by kernel_rfl)
      refine .inl ⟨wanted_yes 11 false 78 rfl (by kernel_rfl) s78, fun K hK => ?_⟩
      clear hs hb
      go_simp
      exact hK _ _ rfl (Ext.refl _)
    · intro fa fw hx hs hb
      obtain ⟨_, s78, rfl⟩ := hs 11 78 (by kernel_rfl) (by kernel_rfl)
      obtain ⟨_, s86, rfl⟩ := hs 19 86 (by kernel_rfl) (by kernel_rfl)
      refine .inl ⟨wanted_free rfl, fun K hK => ?_⟩
      clear hs hb hx
      go_simp
      exact hK _ _ rfl (Ext.refl _)
  case rest =>
    intro w2 hxw2
    rintro _ rfl
    rintro _ rfl
    rintro _ rfl
    rintro _ rfl
    rintro _ rfl
    rintro _ rfl
    rintro _ rfl
    rintro _ rfl
    rintro _ rfl
    rintro _ rfl
    rintro _ rfl
    rintro _ rfl
    rintro _ rfl
    rintro _ rfl
    rintro _ rfl
    rintro _ rfl
    rintro _ rfl
    rintro _ rfl
    rintro _ rfl
    rintro _ rfl
    rintro _ rfl
    simp only [putAll, List.take, Act.put, List.setIfInBounds_toArray, List.set_cons_zero, List.set_cons_succ]
    refine wpAny_done (by kernel_rfl) ?_ _
    go_wp2_with fail
    have F1 := Lib.hid (hxw2.keeps _ _ F0.out); have E1 := Lib.hid (hxw2.keeps _ _ e0)
    refine wp_flow3 14 1 [isV (.slice (some ⟨w.heap.size + 1 + 1, 0, none⟩) 4 4), isV (.int .i64 2), isV (.pointer (some ⟨w.heap.size + 1 + 1, 2, none⟩)), isV (.int .i64 7), isV (S (121 :: r)), isV (.int .u8 121), isV (.slice (some ⟨w.heap.size + 1 + 1 + 1, 0, none⟩) 4 4), isV (.int .i64 2), isV (.pointer (some ⟨w.heap.size + 1 + 1 + 1, 2, none⟩)), isV (.int .u8 120), isV (.int .u8 1), isV (.int .i64 1), isV (.agg #[.int .i64 7, .int .i64 1]), fun v w => ∃ b, v = .pointer (some ⟨b, 0, none⟩) ∧ w2.heap.size ≤ b ∧ w.cell? ⟨b, 0, none⟩ = some (I 0) ∧ w.cell? ⟨b, 1, none⟩ = some (I 0) ∧ w.frozen? ⟨b, 0, none⟩ = false ∧ w.frozen? ⟨b, 1, none⟩ = false] (by kernel_rfl) rfl rfl (by kernel_rfl) (by kernel_rfl) ⟨isV_mono, isV_mono, isV_mono, isV_mono, isV_mono, isV_mono, isV_mono, isV_mono, isV_mono, isV_mono, isV_mono, isV_mono, isV_mono, fun v w w' ⟨b, e, h0, h1, h2, h3, h4⟩ hx => ⟨b, e, h0, hx.keeps _ _ h1, hx.keeps _ _ h2, (Below.frozen (p := ⟨b, 0, none⟩) hx (lt_of_cell h1)).trans h3, (Below.frozen (p := ⟨b, 1, none⟩) hx (lt_of_cell h2)).trans h4⟩, trivial⟩ ?each ?rest
    case each =>
      refine .cons ?_ (.cons ?_ (.cons ?_ (.cons ?_ (.cons ?_ (.cons ?_ (.cons ?_ (.cons ?_ (.cons ?_ (.cons ?_ (.cons ?_ (.cons ?_ (.cons ?_ (.cons ?_ (.nil))))))))))))))
      · intro fa fw hx hs hb
        have s12 : fa.tmps[(12 : Nat)]? = some (.slice (some ⟨w.heap.size + 1 + 1, 0, none⟩) 4 4) := (hb 12 (by kernel_rfl)).trans (by rfl)
        refine .inl ⟨wanted_free rfl, fun K hK => ?_⟩
        clear hs hb hx
        go_simp
        exact hK _ _ rfl (Ext.refl _)
      · intro fa fw hx hs hb
        have s14 : fa.tmps[(14 : Nat)]? = some (.int .i64 2) := (hb 14 (by kernel_rfl)).trans (by rfl)
        refine .inl ⟨wanted_free rfl, fun K hK => ?_⟩
        clear hs hb hx
        go_simp
        exact hK _ _ rfl (Ext.refl _)
      · intro fa fw hx hs hb
        obtain ⟨_, s89, rfl⟩ := hs 0 89 (by kernel_rfl) (by kernel_rfl)
        obtain ⟨_, s90, rfl⟩ := hs 1 90 (by kernel_rfl) (by kernel_rfl)
        refine .inl ⟨wanted_free rfl, fun K hK => ?_⟩
        clear hs hb hx
        go_simp
        exact hK _ _ rfl (Ext.refl _)
      · intro fa fw hx hs hb
        obtain ⟨_, s91, rfl⟩ := hs 2 91 (by kernel_rfl) (by kernel_rfl)
        have c0 := hx.keeps _ _ E1.out
        refine .inl ⟨wanted_free rfl, fun K hK => ?_⟩
        clear hs hb hx
        go_simp
        exact hK _ _ rfl (Ext.refl _)
      · intro fa fw hx hs hb
        have s15 : fa.tmps[(15 : Nat)]? = some (S (121 :: r)) := (hb 15 (by kernel_rfl)).trans (by rfl)
        refine .inl ⟨wanted_free rfl, fun K hK => ?_⟩
        clear hs hb hx
        go_simp
        exact hK _ _ rfl (Ext.refl _)
      · intro fa fw hx hs hb
        obtain ⟨_, s93, rfl⟩ := hs 4 93 (by kernel_rfl) (by kernel_rfl)
        refine .inl ⟨wanted_free rfl, fun K hK => ?_⟩
        clear hs hb
        go_simp
        exact hK _ _ rfl (Ext.refl _)
      · intro fa fw hx hs hb
        have s13 : fa.tmps[(13 : Nat)]? = some (.slice (some ⟨w.heap.size + 1 + 1 + 1, 0, none⟩) 4 4) := (hb 13 (by kernel_rfl)).trans (by rfl)
        refine .inl ⟨wanted_free rfl, fun K hK => ?_⟩
        clear hs hb hx
        go_simp
        exact hK _ _ rfl (Ext.refl _)
      · intro fa fw hx hs hb
        have s14 : fa.tmps[(14 : Nat)]? = some (.int .i64 2) := (hb 14 (by kernel_rfl)).trans (by rfl)
        refine .inl ⟨wanted_free rfl, fun K hK => ?_⟩
        clear hs hb hx
        go_simp
        exact hK _ _ rfl (Ext.refl _)
      · intro fa fw hx hs hb
        obtain ⟨_, s95, rfl⟩ := hs 6 95 (by kernel_rfl) (by kernel_rfl)
        obtain ⟨_, s96, rfl⟩ := hs 7 96 (by kernel_rfl) (by kernel_rfl)
        refine .inl ⟨wanted_free rfl, fun K hK => ?_⟩
        clear hs hb hx
        go_simp
        exact hK _ _ rfl (Ext.refl _)
      · intro fa fw hx hs hb
        obtain ⟨_, s97, rfl⟩ := hs 8 97 (by kernel_rfl) (by kernel_rfl)
        have c0 := hx.keeps _ _ F1.out
        refine .inl ⟨wanted_free rfl, fun K hK => ?_⟩
        clear hs hb hx
        go_simp
        exact hK _ _ rfl (Ext.refl _)
      · intro fa fw hx hs hb
        obtain ⟨_, s94, rfl⟩ := hs 5 94 (by kernel_rfl) (by kernel_rfl)
        obtain ⟨_, s98, rfl⟩ := hs 9 98 (by kernel_rfl) (by kernel_rfl)
        refine .inl ⟨wanted_free rfl, fun K hK => ?_⟩
        clear hs hb
        go_simp
        exact hK _ _ rfl (Ext.refl _)
      · intro fa fw hx hs hb
        obtain ⟨_, s99, rfl⟩ := hs 10 99 (by kernel_rfl) (by kernel_rfl)
        refine .inl ⟨wanted_free rfl, fun K hK => ?_⟩
        clear hs hb
        go_simp
        exact hK _ _ rfl (Ext.refl _)
      · intro fa fw hx hs hb
        obtain ⟨_, s92, rfl⟩ := hs 3 92 (by kernel_rfl) (by kernel_rfl)
        obtain ⟨_, s100, rfl⟩ := hs 11 100 (by kernel_rfl) (by kernel_rfl)
        refine .inl ⟨wanted_free rfl, fun K hK => ?_⟩
        clear hs hb
        go_simp
        exact hK _ _ rfl (Ext.refl _)
      · intro fa fw hx hs hb
        refine .inl ⟨wanted_free rfl, fun K hK => ?_⟩
        clear hs hb
        go_simp
        exact hK _ _ ⟨_, rfl, hx.size, by rw [World.cell?_alloc_new]; rfl, by rw [World.cell?_alloc_new]; rfl, World.frozen?_alloc_at _ _ _ _ rfl, World.frozen?_alloc_at _ _ _ _ rfl⟩ ((Ext.refl _).alloc _)
    case rest =>
      intro w3 hxw3
      rintro _ rfl
      rintro _ rfl
      rintro _ rfl
      rintro _ rfl
      rintro _ rfl
      rintro _ rfl
      rintro _ rfl
      rintro _ rfl
      rintro _ rfl
      rintro _ rfl
      rintro _ rfl
      rintro _ rfl
      rintro _ rfl
      rintro _ ⟨b17, rfl, q17⟩
      simp only [putAll, List.take, Act.put, List.setIfInBounds_toArray, List.set_cons_zero, List.set_cons_succ]
      obtain ⟨qb0, qb1, qb2, qb3, qb4⟩ := q17
      refine wpAny_ready (rs := [14]) (by kernel_rfl) (by simp) (AllReady.cons rfl (fun KK hKK => ?_) AllReady.nil)
      go_simp
      refine hKK _ _ ?_
      clear hKK KK
      refine wpAny_done (by kernel_rfl) ?_ _
      have k0 : ((w3.setCell ⟨b17, 0, none⟩ (.int .i64 7)).setCell ⟨b17, 1, none⟩ (.int .i64 1)).cell? ⟨b17, 0, none⟩ = some (.int .i64 7) := (World.cell?_setCell_other _ _ _ _ (by simp)).trans (World.cell?_setCell_same _ _ _ qb1)
      have k1 : ((w3.setCell ⟨b17, 0, none⟩ (.int .i64 7)).setCell ⟨b17, 1, none⟩ (.int .i64 1)).cell? ⟨b17, 1, none⟩ = some (.int .i64 1) := World.cell?_setCell_same _ _ _ ((World.cell?_setCell_other _ _ _ _ (by simp)).trans qb2)
      have x4 : Ext w ((w3.setCell ⟨b17, 0, none⟩ (.int .i64 7)).setCell ⟨b17, 1, none⟩ (.int .i64 1)) := (((xf.trans hxw2).trans hxw3).setCell (by show w.heap.size ≤ b17; have := (xf.trans hxw2).size; omega) _).setCell (by show w.heap.size ≤ b17; have := (xf.trans hxw2).size; omega) _
      generalize (w3.setCell ⟨b17, 0, none⟩ (.int .i64 7)).setCell ⟨b17, 1, none⟩ (.int .i64 1) = w4 at *
      clear qb1 qb2 qb3 qb4
      have hrl : r.length ≤ 5000 := by have := rest_len wIf s; rw [HQ'.out] at this; simp at this; omega
      go_wp2_with fail
      rw [ba_tail1]
      refine (twoR_any hN w4 ⟨7, 1⟩ r wThen wElse wEnd l hrl (by decide) (by decide) (by decide) hl hn).mono ?_
      rintro e w5 h5
      rw [HT'.out] at h5
      rcases T with _ | q
      · obtain ⟨u, v, rfl, x5⟩ := h5
        go_wp2
        exact bodyPost_ret (v := Pr3 u v (.bool false)) (by simp [results, Tryz.results42, go_sem]) rfl ⟨_, _, rfl, x4.trans x5⟩
      · obtain ⟨A, c, rfl, y1, y2, y3, y4, y5, x5⟩ := h5
        go_wp2
        exact bodyPost_ret (v := Pr3 (.slice A q.1.size c) (S q.2) (.bool true)) (by simp [results, Tryz.results42, go_sem]) rfl ⟨A, c, rfl, y1, y2, y3, y4, y5, x4.trans x5⟩
set_option maxHeartbeats 400000 in
theorem from_w5_2 (w : World) (s : List UInt8) (l : Nat) (hs : s.length ≤ 5000) (hl : l ≤ 13) (hi0 : isP wNothing s = false) (hi1 : isP wPause s = false) (hi2 : isP wHalt s = false) (hi3 : isP wEmit s = false) (hi4 : isP wAwait s = false) (hi5 : isP wIf s = true) {r : List UInt8} (hq : restP wIf s = 122 :: r) {n : Nat} (hN : FromOK n) (hn : l < n) {T : Option (Tr × List UInt8)} (ht : rtwoT (rreadT n) l ⟨7, 2⟩ wThen wElse wEnd r = T) :
    Calls Tryz.prog 42 #[S s, I ((l : Int) + 1)] w (FromPost w (l + 1) T) := by
  have HI0 := Lib.hid hi0; clear hi0
  have HI1 := Lib.hid hi1; clear hi1
  have HI2 := Lib.hid hi2; clear hi2
  have HI3 := Lib.hid hi3; clear hi3
  have HI4 := Lib.hid hi4; clear hi4
  have HI5 := Lib.hid hi5; clear hi5
  have HQ' := Lib.hid hq; clear hq
  have HT' := Lib.hid ht; clear ht
  go_enter Tryz.func42, Tryz.ntmps42
  go_wp2_with fail
  refine wp_loop_rounds 4 ?_
  rw [rounds_succ]
  go_wp2_with fail
  refine (after_any s wNothing (by omega) (by decide) _).mono ?_; rintro e w' ⟨rfl, rfl⟩; rw [HI0.out]
  go_wp2_with fail
  rw [rounds_succ]
  go_wp2_with fail
  refine (after_any s wPause (by omega) (by decide) _).mono ?_; rintro e w' ⟨rfl, rfl⟩; rw [HI1.out]
  go_wp2_with fail
  rw [rounds_succ]
  go_wp2_with fail
  refine (after_any s wHalt (by omega) (by decide) _).mono ?_; rintro e w' ⟨rfl, rfl⟩; rw [HI2.out]
  go_wp2_with fail
  rw [rounds_succ]
  go_wp2_with fail
  rw [rfW_eq]
  have d0 := rfW_word w 0 _ rfl
  have d1 := rfW_word w 1 _ rfl
  have d2 := rfW_word w 2 _ rfl
  have d3 := rfW_word w 3 _ rfl
  have e0 := rfW_kind w 2 _ rfl
  have f0 := rfW_first w 2 _ rfl
  have xf := rfW_ext w
  have hsz := rfW_size w
  generalize rfW w = wf at *
  refine wp_loop_rounds 5 ?_
  rw [rounds_succ]
  go_wp2_with fail
  refine (after_any s wEmit (by omega) (by decide) _).mono ?_; rintro e w' ⟨rfl, rfl⟩; rw [HI3.out]
  go_wp2_with fail
  rw [rounds_succ]
  go_wp2_with fail
  refine (after_any s wAwait (by omega) (by decide) _).mono ?_; rintro e w' ⟨rfl, rfl⟩; rw [HI4.out]
  go_wp2_with fail
  rw [rounds_succ]
  go_hideQ
  go_wp2_with fail
  refine (after_any s wIf (by omega) (by decide) _).mono ?_; rintro e w' ⟨rfl, rfl⟩; rw [HI5.out]
  rw [HQ'.out]
  go_wp2_with fail
  have F0 := Lib.hid f0
  refine wp_flow3 21 0 [isV (S (122 :: r)), isV (.bool false), isV (.bool false), isV (S (122 :: r)), isV (.int .u8 122), isV (.slice (some ⟨w.heap.size + 1 + 1 + 1, 0, none⟩) 4 4), isV (.int .i64 2), isV (.pointer (some ⟨w.heap.size + 1 + 1 + 1, 2, none⟩)), isV (.int .u8 120), isV (.bool false), isV (.bool false), isV (.bool false), isV (S (122 :: r)), isV (.int .u8 122), isV (.slice (some ⟨w.heap.size + 1 + 1 + 1, 0, none⟩) 4 4), isV (.int .i64 2), isV (.pointer (some ⟨w.heap.size + 1 + 1 + 1, 2, none⟩)), isV (.int .u8 120), isV (.int .u8 122), isV (.bool false), isV (.bool false)] (by kernel_rfl) rfl rfl (by kernel_rfl) (by kernel_rfl) ⟨isV_mono, isV_mono, isV_mono, isV_mono, isV_mono, isV_mono, isV_mono, isV_mono, isV_mono, isV_mono, isV_mono, isV_mono, isV_mono, isV_mono, isV_mono, isV_mono, isV_mono, isV_mono, isV_mono, isV_mono, isV_mono, trivial⟩ ?each ?rest
  case each =>
    refine .cons ?_ (.cons ?_ (.cons ?_ (.cons ?_ (.cons ?_ (.cons ?_ (.cons ?_ (.cons ?_ (.cons ?_ (.cons ?_ (.cons ?_ (.cons ?_ (.cons ?_ (.cons ?_ (.cons ?_ (.cons ?_ (.cons ?_ (.cons ?_ (.cons ?_ (.cons ?_ (.cons ?_ (.nil)))))))))))))))))))))
    · intro fa fw hx hs hb
      have s15 : fa.tmps[(15 : Nat)]? = some (S (122 :: r)) := (hb 15 (by kernel_rfl)).trans (by rfl)
      refine .inl ⟨wanted_free rfl, fun K hK => ?_⟩
      clear hs hb hx
      go_simp
      exact hK _ _ rfl (Ext.refl _)
    · intro fa fw hx hs hb
      obtain ⟨_, s67, rfl⟩ := hs 0 67 (by kernel_rfl) (by kernel_rfl)
      refine .inl ⟨wanted_free rfl, fun K hK => ?_⟩
      clear hs hb
      go_simp
      exact hK _ _ rfl (Ext.refl _)
    · intro fa fw hx hs hb
      obtain ⟨_, s68, rfl⟩ := hs 1 68 (by kernel_rfl) (by kernel_rfl)
      refine .inl ⟨wanted_free rfl, fun K hK => ?_⟩
      clear hs hb hx
      go_simp
      exact hK _ _ rfl (Ext.refl _)
    · intro fa fw hx hs hb
      obtain ⟨_, s69, rfl⟩ := hs 2 69 (by kernel_rfl) (by kernel_rfl)
      have s15 : fa.tmps[(15 : Nat)]? = some (S (122 :: r)) := (hb 15 (by kernel_rfl)).trans (by rfl)
      refine .inl ⟨wanted_yes 2 false 69 rfl (by kernel_rfl) s69, fun K hK => ?_⟩
      clear hs hb hx
      go_simp
      exact hK _ _ rfl (Ext.refl _)
    · intro fa fw hx hs hb
      obtain ⟨_, s69, rfl⟩ := hs 2 69 (by kernel_rfl) (by kernel_rfl)
      obtain ⟨_, s70, rfl⟩ := hs 3 70 (by kernel_rfl) (by kernel_rfl)
      refine .inl ⟨wanted_yes 2 false 69 rfl (by kernel_rfl) s69, fun K hK => ?_⟩
      clear hs hb
      go_simp
      exact hK _ _ rfl (Ext.refl _)
    · intro fa fw hx hs hb
      obtain ⟨_, s69, rfl⟩ := hs 2 69 (by kernel_rfl) (by kernel_rfl)
      have s13 : fa.tmps[(13 : Nat)]? = some (.slice (some ⟨w.heap.size + 1 + 1 + 1, 0, none⟩) 4 4) := (hb 13 (by kernel_rfl)).trans (by rfl)
      refine .inl ⟨wanted_yes 2 false 69 rfl (by kernel_rfl) s69, fun K hK => ?_⟩
      clear hs hb hx
      go_simp
      exact hK _ _ rfl (Ext.refl _)
    · intro fa fw hx hs hb
      obtain ⟨_, s69, rfl⟩ := hs 2 69 (by kernel_rfl) (by kernel_rfl)
      have s14 : fa.tmps[(14 : Nat)]? = some (.int .i64 2) := (hb 14 (by kernel_rfl)).trans (by rfl)
      refine .inl ⟨wanted_yes 2 false 69 rfl (by kernel_rfl) s69, fun K hK => ?_⟩
      clear hs hb hx
      go_simp
      exact hK _ _ rfl (Ext.refl _)
    · intro fa fw hx hs hb
      obtain ⟨_, s69, rfl⟩ := hs 2 69 (by kernel_rfl) (by kernel_rfl)
      obtain ⟨_, s72, rfl⟩ := hs 5 72 (by kernel_rfl) (by kernel_rfl)
      obtain ⟨_, s73, rfl⟩ := hs 6 73 (by kernel_rfl) (by kernel_rfl)
      refine .inl ⟨wanted_yes 2 false 69 rfl (by kernel_rfl) s69, fun K hK => ?_⟩
      clear hs hb hx
      go_simp
      exact hK _ _ rfl (Ext.refl _)
    · intro fa fw hx hs hb
      obtain ⟨_, s69, rfl⟩ := hs 2 69 (by kernel_rfl) (by kernel_rfl)
      obtain ⟨_, s74, rfl⟩ := hs 7 74 (by kernel_rfl) (by kernel_rfl)
      have c0 := hx.keeps _ _ F0.out
      refine .inl ⟨wanted_yes 2 false 69 rfl (by kernel_rfl) s69, fun K hK => ?_⟩
      clear hs hb hx
      go_simp
      exact hK _ _ rfl (Ext.refl _)
    · intro fa fw hx hs hb
      obtain ⟨_, s69, rfl⟩ := hs 2 69 (by kernel_rfl) (by kernel_rfl)
      obtain ⟨_, s71, rfl⟩ := hs 4 71 (by kernel_rfl) (by kernel_rfl)
      obtain ⟨_, s75, rfl⟩ := hs 8 75 (by kernel_rfl) (by kernel_rfl)
      refine .inl ⟨wanted_yes 2 false 69 rfl (by kernel_rfl) s69, fun K hK => ?_⟩
      clear hs hb
      go_simp
      exact hK _ _ rfl (Ext.refl _)
    · intro fa fw hx hs hb
      obtain ⟨_, s69, rfl⟩ := hs 2 69 (by kernel_rfl) (by kernel_rfl)
      obtain ⟨_, s76, rfl⟩ := hs 9 76 (by kernel_rfl) (by kernel_rfl)
      refine .inl ⟨wanted_free rfl, fun K hK => ?_⟩
      clear hs hb hx
      go_simp
      exact hK _ _ rfl (Ext.refl _)
    · intro fa fw hx hs hb
      obtain ⟨_, s77, rfl⟩ := hs 10 77 (by kernel_rfl) (by kernel_rfl)
      refine .inl ⟨wanted_free rfl, fun K hK => ?_⟩
      clear hs hb hx
      go_simp
      exact hK _ _ rfl (Ext.refl _)
    · intro fa fw hx hs hb
      obtain ⟨_, s78, rfl⟩ := hs 11 78 (by kernel_rfl) (by kernel_rfl)
      have s15 : fa.tmps[(15 : Nat)]? = some (S (122 :: r)) := (hb 15 (by kernel_rfl)).trans (by rfl)
      refine .inl ⟨wanted_yes 11 false 78 rfl (by kernel_rfl) s78, fun K hK => ?_⟩
      clear hs hb hx
      go_simp
      exact hK _ _ rfl (Ext.refl _)
    · intro fa fw hx hs hb
      obtain ⟨_, s78, rfl⟩ := hs 11 78 (by kernel_rfl) (by kernel_rfl)
      obtain ⟨_, s79, rfl⟩ := hs 12 79 (by kernel_rfl) (by kernel_rfl)
      refine .inl ⟨wanted_yes 11 false 78 rfl (by kernel_rfl) s78, fun K hK => ?_⟩
      clear hs hb
      go_simp
      exact hK _ _ rfl (Ext.refl _)
    · intro fa fw hx hs hb
      obtain ⟨_, s78, rfl⟩ := hs 11 78 (by kernel_rfl) (by kernel_rfl)
      have s13 : fa.tmps[(13 : Nat)]? = some (.slice (some ⟨w.heap.size + 1 + 1 + 1, 0, none⟩) 4 4) := (hb 13 (by kernel_rfl)).trans (by rfl)
      refine .inl ⟨wanted_yes 11 false 78 rfl (by kernel_rfl) s78, fun K hK => ?_⟩
      clear hs hb hx
      go_simp
      exact hK _ _ rfl (Ext.refl _)
    · intro fa fw hx hs hb
      obtain ⟨_, s78, rfl⟩ := hs 11 78 (by kernel_rfl) (by kernel_rfl)
      have s14 : fa.tmps[(14 : Nat)]? = some (.int .i64 2) := (hb 14 (by kernel_rfl)).trans (by rfl)
      refine .inl ⟨wanted_yes 11 false 78 rfl (by kernel_rfl) s78, fun K hK => ?_⟩
      clear hs hb hx
      go_simp
      exact hK _ _ rfl (Ext.refl _)
    · intro fa fw hx hs hb
      obtain ⟨_, s78, rfl⟩ := hs 11 78 (by kernel_rfl) (by kernel_rfl)
      obtain ⟨_, s81, rfl⟩ := hs 14 81 (by kernel_rfl) (by kernel_rfl)
      obtain ⟨_, s82, rfl⟩ := hs 15 82 (by kernel_rfl) (by kernel_rfl)
      refine .inl ⟨wanted_yes 11 false 78 rfl (by kernel_rfl) s78, fun K hK => ?_⟩
      clear hs hb hx
      go_simp
      exact hK _ _ rfl (Ext.refl _)
    · intro fa fw hx hs hb
      obtain ⟨_, s78, rfl⟩ := hs 11 78 (by kernel_rfl) (by kernel_rfl)
      obtain ⟨_, s83, rfl⟩ := hs 16 83 (by kernel_rfl) (by kernel_rfl)
      have c0 := hx.keeps _ _ F0.out
      refine .inl ⟨wanted_yes 11 false 78 rfl (by kernel_rfl) s78, fun K hK => ?_⟩
      clear hs hb hx
      go_simp
      exact hK _ _ rfl (Ext.refl _)
    · intro fa fw hx hs hb
      obtain ⟨_, s78, rfl⟩ := hs 11 78 (by kernel_rfl) (by kernel_rfl)
      obtain ⟨_, s84, rfl⟩ := hs 17 84 (by kernel_rfl) (by kernel_rfl)
      refine .inl ⟨wanted_yes 11 false 78 rfl (by kernel_rfl) s78, fun K hK => ?_⟩
      clear hs hb
      go_simp
      exact hK _ _ rfl (Ext.refl _)
    · intro fa fw hx hs hb
      obtain ⟨_, s78, rfl⟩ := hs 11 78 (by kernel_rfl) (by kernel_rfl)
      obtain ⟨_, s80, rfl⟩ := hs 13 80 (by kernel_rfl) (by kernel_rfl)
      obtain ⟨_, s85, rfl⟩ := hs 18 85 (by kernel_rfl) (by kernel_rfl)
      refine .inl ⟨wanted_yes 11 false 78 rfl (by kernel_rfl) s78, fun K hK => ?_⟩
      clear hs hb
      go_simp
      exact hK _ _ rfl (Ext.refl _)
    · intro fa fw hx hs hb
      obtain ⟨_, s78, rfl⟩ := hs 11 78 (by kernel_rfl) (by kernel_rfl)
      obtain ⟨_, s86, rfl⟩ := hs 19 86 (by kernel_rfl) (by kernel_rfl)
      refine .inl ⟨wanted_free rfl, fun K hK => ?_⟩
      clear hs hb hx
      go_simp
      exact hK _ _ rfl (Ext.refl _)
  case rest =>
    intro w2 hxw2
    rintro _ rfl
    rintro _ rfl
    rintro _ rfl
    rintro _ rfl
    rintro _ rfl
    rintro _ rfl
    rintro _ rfl
    rintro _ rfl
    rintro _ rfl
    rintro _ rfl
    rintro _ rfl
    rintro _ rfl
    rintro _ rfl
    rintro _ rfl
    rintro _ rfl
    rintro _ rfl
    rintro _ rfl
    rintro _ rfl
    rintro _ rfl
    rintro _ rfl
    rintro _ rfl
    simp only [putAll, List.take, Act.put, List.setIfInBounds_toArray, List.set_cons_zero, List.set_cons_succ]
    refine wpAny_done (by kernel_rfl) ?_ _
    go_wp2_with fail
    have F1 := Lib.hid (hxw2.keeps _ _ F0.out); have E1 := Lib.hid (hxw2.keeps _ _ e0)
    refine wp_flow3 14 1 [isV (.slice (some ⟨w.heap.size + 1 + 1, 0, none⟩) 4 4), isV (.int .i64 2), isV (.pointer (some ⟨w.heap.size + 1 + 1, 2, none⟩)), isV (.int .i64 7), isV (S (122 :: r)), isV (.int .u8 122), isV (.slice (some ⟨w.heap.size + 1 + 1 + 1, 0, none⟩) 4 4), isV (.int .i64 2), isV (.pointer (some ⟨w.heap.size + 1 + 1 + 1, 2, none⟩)), isV (.int .u8 120), isV (.int .u8 2), isV (.int .i64 2), isV (.agg #[.int .i64 7, .int .i64 2]), fun v w => ∃ b, v = .pointer (some ⟨b, 0, none⟩) ∧ w2.heap.size ≤ b ∧ w.cell? ⟨b, 0, none⟩ = some (I 0) ∧ w.cell? ⟨b, 1, none⟩ = some (I 0) ∧ w.frozen? ⟨b, 0, none⟩ = false ∧ w.frozen? ⟨b, 1, none⟩ = false] (by kernel_rfl) rfl rfl (by kernel_rfl) (by kernel_rfl) ⟨isV_mono, isV_mono, isV_mono, isV_mono, isV_mono, isV_mono, isV_mono, isV_mono, isV_mono, isV_mono, isV_mono, isV_mono, isV_mono, fun v w w' ⟨b, e, h0, h1, h2, h3, h4⟩ hx => ⟨b, e, h0, hx.keeps _ _ h1, hx.keeps _ _ h2, (Below.frozen (p := ⟨b, 0, none⟩) hx (lt_of_cell h1)).trans h3, (Below.frozen (p := ⟨b, 1, none⟩) hx (lt_of_cell h2)).trans h4⟩, trivial⟩ ?each ?rest
    case each =>
      refine .cons ?_ (.cons ?_ (.cons ?_ (.cons ?_ (.cons ?_ (.cons ?_ (.cons ?_ (.cons ?_ (.cons ?_ (.cons ?_ (.cons ?_ (.cons ?_ (.cons ?_ (.cons ?_ (.nil))))))))))))))
      · intro fa fw hx hs hb
        have s12 : fa.tmps[(12 : Nat)]? = some (.slice (some ⟨w.heap.size + 1 + 1, 0, none⟩) 4 4) := (hb 12 (by kernel_rfl)).trans (by rfl)
        refine .inl ⟨wanted_free rfl, fun K hK => ?_⟩
        clear hs hb hx
        go_simp
        exact hK _ _ rfl (Ext.refl _)
      · intro fa fw hx hs hb
        have s14 : fa.tmps[(14 : Nat)]? = some (.int .i64 2) := (hb 14 (by kernel_rfl)).trans (by rfl)
        refine .inl ⟨wanted_free rfl, fun K hK => ?_⟩
        clear hs hb hx
        go_simp
        exact hK _ _ rfl (Ext.refl _)
      · intro fa fw hx hs hb
        obtain ⟨_, s89, rfl⟩ := hs 0 89 (by kernel_rfl) (by kernel_rfl)
        obtain ⟨_, s90, rfl⟩ := hs 1 90 (by kernel_rfl) (by kernel_rfl)
        refine .inl ⟨wanted_free rfl, fun K hK => ?_⟩
        clear hs hb hx
        go_simp
        exact hK _ _ rfl (Ext.refl _)
      · intro fa fw hx hs hb
        obtain ⟨_, s91, rfl⟩ := hs 2 91 (by kernel_rfl) (by kernel_rfl)
        have c0 := hx.keeps _ _ E1.out
        refine .inl ⟨wanted_free rfl, fun K hK => ?_⟩
        clear hs hb hx
        go_simp
        exact hK _ _ rfl (Ext.refl _)
      · intro fa fw hx hs hb
        have s15 : fa.tmps[(15 : Nat)]? = some (S (122 :: r)) := (hb 15 (by kernel_rfl)).trans (by rfl)
        refine .inl ⟨wanted_free rfl, fun K hK => ?_⟩
        clear hs hb hx
        go_simp
        exact hK _ _ rfl (Ext.refl _)
      · intro fa fw hx hs hb
        obtain ⟨_, s93, rfl⟩ := hs 4 93 (by kernel_rfl) (by kernel_rfl)
        refine .inl ⟨wanted_free rfl, fun K hK => ?_⟩
        clear hs hb
        go_simp
        exact hK _ _ rfl (Ext.refl _)
      · intro fa fw hx hs hb
        have s13 : fa.tmps[(13 : Nat)]? = some (.slice (some ⟨w.heap.size + 1 + 1 + 1, 0, none⟩) 4 4) := (hb 13 (by kernel_rfl)).trans (by rfl)
        refine .inl ⟨wanted_free rfl, fun K hK => ?_⟩
        clear hs hb hx
        go_simp
        exact hK _ _ rfl (Ext.refl _)
      · intro fa fw hx hs hb
        have s14 : fa.tmps[(14 : Nat)]? = some (.int .i64 2) := (hb 14 (by kernel_rfl)).trans (by rfl)
        refine .inl ⟨wanted_free rfl, fun K hK => ?_⟩
        clear hs hb hx
        go_simp
        exact hK _ _ rfl (Ext.refl _)
      · intro fa fw hx hs hb
        obtain ⟨_, s95, rfl⟩ := hs 6 95 (by kernel_rfl) (by kernel_rfl)
        obtain ⟨_, s96, rfl⟩ := hs 7 96 (by kernel_rfl) (by kernel_rfl)
        refine .inl ⟨wanted_free rfl, fun K hK => ?_⟩
        clear hs hb hx
        go_simp
        exact hK _ _ rfl (Ext.refl _)
      · intro fa fw hx hs hb
        obtain ⟨_, s97, rfl⟩ := hs 8 97 (by kernel_rfl) (by kernel_rfl)
        have c0 := hx.keeps _ _ F1.out
        refine .inl ⟨wanted_free rfl, fun K hK => ?_⟩
        clear hs hb hx
        go_simp
        exact hK _ _ rfl (Ext.refl _)
      · intro fa fw hx hs hb
        obtain ⟨_, s94, rfl⟩ := hs 5 94 (by kernel_rfl) (by kernel_rfl)
        obtain ⟨_, s98, rfl⟩ := hs 9 98 (by kernel_rfl) (by kernel_rfl)
        refine .inl ⟨wanted_free rfl, fun K hK => ?_⟩
        clear hs hb
        go_simp
        exact hK _ _ rfl (Ext.refl _)
      · intro fa fw hx hs hb
        obtain ⟨_, s99, rfl⟩ := hs 10 99 (by kernel_rfl) (by kernel_rfl)
        refine .inl ⟨wanted_free rfl, fun K hK => ?_⟩
        clear hs hb
        go_simp
        exact hK _ _ rfl (Ext.refl _)
      · intro fa fw hx hs hb
        obtain ⟨_, s92, rfl⟩ := hs 3 92 (by kernel_rfl) (by kernel_rfl)
        obtain ⟨_, s100, rfl⟩ := hs 11 100 (by kernel_rfl) (by kernel_rfl)
        refine .inl ⟨wanted_free rfl, fun K hK => ?_⟩
        clear hs hb
        go_simp
        exact hK _ _ rfl (Ext.refl _)
      · intro fa fw hx hs hb
        refine .inl ⟨wanted_free rfl, fun K hK => ?_⟩
        clear hs hb
        go_simp
        exact hK _ _ ⟨_, rfl, hx.size, by rw [World.cell?_alloc_new]; rfl, by rw [World.cell?_alloc_new]; rfl, World.frozen?_alloc_at _ _ _ _ rfl, World.frozen?_alloc_at _ _ _ _ rfl⟩ ((Ext.refl _).alloc _)
    case rest =>
      intro w3 hxw3
      rintro _ rfl
      rintro _ rfl
      rintro _ rfl
      rintro _ rfl
      rintro _ rfl
      rintro _ rfl
      rintro _ rfl
      rintro _ rfl
      rintro _ rfl
      rintro _ rfl
      rintro _ rfl
      rintro _ rfl
      rintro _ rfl
      rintro _ ⟨b17, rfl, q17⟩
      simp only [putAll, List.take, Act.put, List.setIfInBounds_toArray, List.set_cons_zero, List.set_cons_succ]
      obtain ⟨qb0, qb1, qb2, qb3, qb4⟩ := q17
      refine wpAny_ready (rs := [14]) (by kernel_rfl) (by simp) (AllReady.cons rfl (fun KK hKK => ?_) AllReady.nil)
      go_simp
      refine hKK _ _ ?_
      clear hKK KK
      refine wpAny_done (by kernel_rfl) ?_ _
      have k0 : ((w3.setCell ⟨b17, 0, none⟩ (.int .i64 7)).setCell ⟨b17, 1, none⟩ (.int .i64 2)).cell? ⟨b17, 0, none⟩ = some (.int .i64 7) := (World.cell?_setCell_other _ _ _ _ (by simp)).trans (World.cell?_setCell_same _ _ _ qb1)
      have k1 : ((w3.setCell ⟨b17, 0, none⟩ (.int .i64 7)).setCell ⟨b17, 1, none⟩ (.int .i64 2)).cell? ⟨b17, 1, none⟩ = some (.int .i64 2) := World.cell?_setCell_same _ _ _ ((World.cell?_setCell_other _ _ _ _ (by simp)).trans qb2)
      have x4 : Ext w ((w3.setCell ⟨b17, 0, none⟩ (.int .i64 7)).setCell ⟨b17, 1, none⟩ (.int .i64 2)) := (((xf.trans hxw2).trans hxw3).setCell (by show w.heap.size ≤ b17; have := (xf.trans hxw2).size; omega) _).setCell (by show w.heap.size ≤ b17; have := (xf.trans hxw2).size; omega) _
      generalize (w3.setCell ⟨b17, 0, none⟩ (.int .i64 7)).setCell ⟨b17, 1, none⟩ (.int .i64 2) = w4 at *
      clear qb1 qb2 qb3 qb4
      have hrl : r.length ≤ 5000 := by have := rest_len wIf s; rw [HQ'.out] at this; simp at this; omega
      go_wp2_with fail
      rw [ba_tail1]
      refine (twoR_any hN w4 ⟨7, 2⟩ r wThen wElse wEnd l hrl (by decide) (by decide) (by decide) hl hn).mono ?_
      rintro e w5 h5
      rw [HT'.out] at h5
      rcases T with _ | q
      · obtain ⟨u, v, rfl, x5⟩ := h5
        go_wp2
        exact bodyPost_ret (v := Pr3 u v (.bool false)) (by simp [results, Tryz.results42, go_sem]) rfl ⟨_, _, rfl, x4.trans x5⟩
      · obtain ⟨A, c, rfl, y1, y2, y3, y4, y5, x5⟩ := h5
        go_wp2
        exact bodyPost_ret (v := Pr3 (.slice A q.1.size c) (S q.2) (.bool true)) (by simp [results, Tryz.results42, go_sem]) rfl ⟨A, c, rfl, y1, y2, y3, y4, y5, x4.trans x5⟩
set_option maxHeartbeats 400000 in
theorem from_w6_nil (w : World) (s : List UInt8) (l : Nat) (hs : s.length ≤ 5000) (hl : l ≤ 13) (hi0 : isP wNothing s = false) (hi1 : isP wPause s = false) (hi2 : isP wHalt s = false) (hi3 : isP wEmit s = false) (hi4 : isP wAwait s = false) (hi5 : isP wIf s = false) (hi6 : isP wWas s = true) (hq : restP wWas s = []) :
    Calls Tryz.prog 42 #[S s, I ((l : Int) + 1)] w fun e w' => ∃ u v, e = .returned (Pr3 u v (.bool false)) ∧ Ext w w' := by
  have hr := True.intro
  have HI0 := Lib.hid hi0; clear hi0
  have HI1 := Lib.hid hi1; clear hi1
  have HI2 := Lib.hid hi2; clear hi2
  have HI3 := Lib.hid hi3; clear hi3
  have HI4 := Lib.hid hi4; clear hi4
  have HI5 := Lib.hid hi5; clear hi5
  have HI6 := Lib.hid hi6; clear hi6
  have HQ' := Lib.hid hq; clear hq
  go_enter Tryz.func42, Tryz.ntmps42
  go_wp2_with fail
  refine wp_loop_rounds 4 ?_
  rw [rounds_succ]
  go_wp2_with fail
  refine (after_any s wNothing (by omega) (by decide) _).mono ?_; rintro e w' ⟨rfl, rfl⟩; rw [HI0.out]
  go_wp2_with fail
  rw [rounds_succ]
  go_wp2_with fail
  refine (after_any s wPause (by omega) (by decide) _).mono ?_; rintro e w' ⟨rfl, rfl⟩; rw [HI1.out]
  go_wp2_with fail
  rw [rounds_succ]
  go_wp2_with fail
  refine (after_any s wHalt (by omega) (by decide) _).mono ?_; rintro e w' ⟨rfl, rfl⟩; rw [HI2.out]
  go_wp2_with fail
  rw [rounds_succ]
  go_wp2_with fail
  rw [rfW_eq]
  have d0 := rfW_word w 0 _ rfl
  have d1 := rfW_word w 1 _ rfl
  have d2 := rfW_word w 2 _ rfl
  have d3 := rfW_word w 3 _ rfl
  have e0 := rfW_kind w 3 _ rfl
  have f0 := rfW_first w 3 _ rfl
  have xf := rfW_ext w
  have hsz := rfW_size w
  generalize rfW w = wf at *
  refine wp_loop_rounds 5 ?_
  rw [rounds_succ]
  go_wp2_with fail
  refine (after_any s wEmit (by omega) (by decide) _).mono ?_; rintro e w' ⟨rfl, rfl⟩; rw [HI3.out]
  go_wp2_with fail
  rw [rounds_succ]
  go_wp2_with fail
  refine (after_any s wAwait (by omega) (by decide) _).mono ?_; rintro e w' ⟨rfl, rfl⟩; rw [HI4.out]
  go_wp2_with fail
  rw [rounds_succ]
  go_wp2_with fail
  refine (after_any s wIf (by omega) (by decide) _).mono ?_; rintro e w' ⟨rfl, rfl⟩; rw [HI5.out]
  go_wp2_with fail
  rw [rounds_succ]
  go_hideQ
  go_wp2_with fail
  refine (after_any s wWas (by omega) (by decide) _).mono ?_; rintro e w' ⟨rfl, rfl⟩; rw [HI6.out]
  rw [HQ'.out]
  go_wp2_with fail
  have F0 := Lib.hid f0
  refine wp_flow3 21 0 [isV (S []), isV (.bool true), isV (.bool true), isV undef, isV undef, isV undef, isV undef, isV undef, isV undef, isV undef, isV (.bool true), isV (.bool true), isV undef, isV undef, isV undef, isV undef, isV undef, isV undef, isV undef, isV undef, isV (.bool true)] (by kernel_rfl) rfl rfl (by kernel_rfl) (by kernel_rfl) ⟨isV_mono, isV_mono, isV_mono, isV_mono, isV_mono, isV_mono, isV_mono, isV_mono, isV_mono, isV_mono, isV_mono, isV_mono, isV_mono, isV_mono, isV_mono, isV_mono, isV_mono, isV_mono, isV_mono, isV_mono, isV_mono, trivial⟩ ?each ?rest
  case each =>
    refine .cons ?_ (.cons ?_ (.cons ?_ (.cons ?_ (.cons ?_ (.cons ?_ (.cons ?_ (.cons ?_ (.cons ?_ (.cons ?_ (.cons ?_ (.cons ?_ (.cons ?_ (.cons ?_ (.cons ?_ (.cons ?_ (.cons ?_ (.cons ?_ (.cons ?_ (.cons ?_ (.cons ?_ (.nil)))))))))))))))))))))
    · intro fa fw hx hs hb
      have s15 : fa.tmps[(15 : Nat)]? = some (S []) := (hb 15 (by kernel_rfl)).trans (by rfl)
      refine .inl ⟨wanted_free rfl, fun K hK => ?_⟩
      clear hs hb hx
      go_simp
      exact hK _ _ rfl (Ext.refl _)
    · intro fa fw hx hs hb
      obtain ⟨_, s67, rfl⟩ := hs 0 67 (by kernel_rfl) (by kernel_rfl)
      refine .inl ⟨wanted_free rfl, fun K hK => ?_⟩
      clear hs hb
      go_simp
      exact hK _ _ rfl (Ext.refl _)
    · intro fa fw hx hs hb
      obtain ⟨_, s68, rfl⟩ := hs 1 68 (by kernel_rfl) (by kernel_rfl)
      refine .inl ⟨wanted_free rfl, fun K hK => ?_⟩
      clear hs hb hx
      go_simp
      exact hK _ _ rfl (Ext.refl _)
    · intro fa fw hx hs hb
      obtain ⟨_, s69, rfl⟩ := hs 2 69 (by kernel_rfl) (by kernel_rfl)
      exact .inr ⟨wanted_no 2 false 69 rfl (by kernel_rfl) s69, rfl⟩
    · intro fa fw hx hs hb
      obtain ⟨_, s69, rfl⟩ := hs 2 69 (by kernel_rfl) (by kernel_rfl)
      exact .inr ⟨wanted_no 2 false 69 rfl (by kernel_rfl) s69, rfl⟩
    · intro fa fw hx hs hb
      obtain ⟨_, s69, rfl⟩ := hs 2 69 (by kernel_rfl) (by kernel_rfl)
      exact .inr ⟨wanted_no 2 false 69 rfl (by kernel_rfl) s69, rfl⟩
    · intro fa fw hx hs hb
      obtain ⟨_, s69, rfl⟩ := hs 2 69 (by kernel_rfl) (by kernel_rfl)
      exact .inr ⟨wanted_no 2 false 69 rfl (by kernel_rfl) s69, rfl⟩
    · intro fa fw hx hs hb
      obtain ⟨_, s69, rfl⟩ := hs 2 69 (by kernel_rfl) (by kernel_rfl)
      exact .inr ⟨wanted_no 2 false 69 rfl (by kernel_rfl) s69, rfl⟩
    · intro fa fw hx hs hb
      obtain ⟨_, s69, rfl⟩ := hs 2 69 (by kernel_rfl) (by kernel_rfl)
      exact .inr ⟨wanted_no 2 false 69 rfl (by kernel_rfl) s69, rfl⟩
    · intro fa fw hx hs hb
      obtain ⟨_, s69, rfl⟩ := hs 2 69 (by kernel_rfl) (by kernel_rfl)
      exact .inr ⟨wanted_no 2 false 69 rfl (by kernel_rfl) s69, rfl⟩
    · intro fa fw hx hs hb
      obtain ⟨_, s69, rfl⟩ := hs 2 69 (by kernel_rfl) (by kernel_rfl)
      obtain ⟨_, s76, rfl⟩ := hs 9 76 (by kernel_rfl) (by kernel_rfl)
      refine .inl ⟨wanted_free rfl, fun K hK => ?_⟩
      clear hs hb hx
      go_simp
      exact hK _ _ rfl (Ext.refl _)
    · intro fa fw hx hs hb
      obtain ⟨_, s77, rfl⟩ := hs 10 77 (by kernel_rfl) (by kernel_rfl)
      refine .inl ⟨wanted_free rfl, fun K hK => ?_⟩
      clear hs hb hx
      go_simp
      exact hK _ _ rfl (Ext.refl _)
    · intro fa fw hx hs hb
      obtain ⟨_, s78, rfl⟩ := hs 11 78 (by kernel_rfl) (by kernel_rfl)
      exact .inr ⟨wanted_no 11 false 78 rfl (by kernel_rfl) s78, rfl⟩
    · intro fa fw hx hs hb
      obtain ⟨_, s78, rfl⟩ := hs 11 78 (by kernel_rfl) (by kernel_rfl)
      exact .inr ⟨wanted_no 11 false 78 rfl (by kernel_rfl) s78, rfl⟩
    · intro fa fw hx hs hb
      obtain ⟨_, s78, rfl⟩ := hs 11 78 (by kernel_rfl) (by kernel_rfl)
      exact .inr ⟨wanted_no 11 false 78 rfl (by kernel_rfl) s78, rfl⟩
    · intro fa fw hx hs hb
      obtain ⟨_, s78, rfl⟩ := hs 11 78 (by kernel_rfl) (by kernel_rfl)
      exact .inr ⟨wanted_no 11 false 78 rfl (by kernel_rfl) s78, rfl⟩
    · intro fa fw hx hs hb
      obtain ⟨_, s78, rfl⟩ := hs 11 78 (by kernel_rfl) (by kernel_rfl)
      exact .inr ⟨wanted_no 11 false 78 rfl (by kernel_rfl) s78, rfl⟩
    · intro fa fw hx hs hb
      obtain ⟨_, s78, rfl⟩ := hs 11 78 (by kernel_rfl) (by kernel_rfl)
      exact .inr ⟨wanted_no 11 false 78 rfl (by kernel_rfl) s78, rfl⟩
    · intro fa fw hx hs hb
      obtain ⟨_, s78, rfl⟩ := hs 11 78 (by kernel_rfl) (by kernel_rfl)
      exact .inr ⟨wanted_no 11 false 78 rfl (by kernel_rfl) s78, rfl⟩
    · intro fa fw hx hs hb
      obtain ⟨_, s78, rfl⟩ := hs 11 78 (by kernel_rfl) (by kernel_rfl)
      exact .inr ⟨wanted_no 11 false 78 rfl (by kernel_rfl) s78, rfl⟩
    · intro fa fw hx hs hb
      obtain ⟨_, s78, rfl⟩ := hs 11 78 (by kernel_rfl) (by kernel_rfl)
      obtain ⟨_, s86, rfl⟩ := hs 19 86 (by kernel_rfl) (by kernel_rfl)
      refine .inl ⟨wanted_free rfl, fun K hK => ?_⟩
      clear hs hb hx
      go_simp
      exact hK _ _ rfl (Ext.refl _)
  case rest =>
    intro w2 hxw2
    rintro _ rfl
    rintro _ rfl
    rintro _ rfl
    rintro _ rfl
    rintro _ rfl
    rintro _ rfl
    rintro _ rfl
    rintro _ rfl
    rintro _ rfl
    rintro _ rfl
    rintro _ rfl
    rintro _ rfl
    rintro _ rfl
    rintro _ rfl
    rintro _ rfl
    rintro _ rfl
    rintro _ rfl
    rintro _ rfl
    rintro _ rfl
    rintro _ rfl
    rintro _ rfl
    simp only [putAll, List.take, Act.put, List.setIfInBounds_toArray, List.set_cons_zero, List.set_cons_succ]
    refine wpAny_done (by kernel_rfl) ?_ _
    go_wp2
    exact bodyPost_ret (v := Pr3 (.slice none 0 0) (S s) (.bool false)) (by simp [results, Tryz.results42, go_sem]) rfl ⟨_, _, rfl, xf.trans hxw2⟩
set_option maxHeartbeats 400000 in
theorem from_w6_lo (w : World) (s : List UInt8) (l : Nat) (hs : s.length ≤ 5000) (hl : l ≤ 13) (hi0 : isP wNothing s = false) (hi1 : isP wPause s = false) (hi2 : isP wHalt s = false) (hi3 : isP wEmit s = false) (hi4 : isP wAwait s = false) (hi5 : isP wIf s = false) (hi6 : isP wWas s = true) {c : UInt8} {r : List UInt8} (hq : restP wWas s = c :: r) (hc : c.toNat < 65) :
    Calls Tryz.prog 42 #[S s, I ((l : Int) + 1)] w fun e w' => ∃ u v, e = .returned (Pr3 u v (.bool false)) ∧ Ext w w' := by
  have hr := True.intro
  have HC := Lib.hid hc; clear hc
  have HI0 := Lib.hid hi0; clear hi0
  have HI1 := Lib.hid hi1; clear hi1
  have HI2 := Lib.hid hi2; clear hi2
  have HI3 := Lib.hid hi3; clear hi3
  have HI4 := Lib.hid hi4; clear hi4
  have HI5 := Lib.hid hi5; clear hi5
  have HI6 := Lib.hid hi6; clear hi6
  have HQ' := Lib.hid hq; clear hq
  go_enter Tryz.func42, Tryz.ntmps42
  go_wp2_with fail
  refine wp_loop_rounds 4 ?_
  rw [rounds_succ]
  go_wp2_with fail
  refine (after_any s wNothing (by omega) (by decide) _).mono ?_; rintro e w' ⟨rfl, rfl⟩; rw [HI0.out]
  go_wp2_with fail
  rw [rounds_succ]
  go_wp2_with fail
  refine (after_any s wPause (by omega) (by decide) _).mono ?_; rintro e w' ⟨rfl, rfl⟩; rw [HI1.out]
  go_wp2_with fail
  rw [rounds_succ]
  go_wp2_with fail
  refine (after_any s wHalt (by omega) (by decide) _).mono ?_; rintro e w' ⟨rfl, rfl⟩; rw [HI2.out]
  go_wp2_with fail
  rw [rounds_succ]
  go_wp2_with fail
  rw [rfW_eq]
  have d0 := rfW_word w 0 _ rfl
  have d1 := rfW_word w 1 _ rfl
  have d2 := rfW_word w 2 _ rfl
  have d3 := rfW_word w 3 _ rfl
  have e0 := rfW_kind w 3 _ rfl
  have f0 := rfW_first w 3 _ rfl
  have xf := rfW_ext w
  have hsz := rfW_size w
  generalize rfW w = wf at *
  refine wp_loop_rounds 5 ?_
  rw [rounds_succ]
  go_wp2_with fail
  refine (after_any s wEmit (by omega) (by decide) _).mono ?_; rintro e w' ⟨rfl, rfl⟩; rw [HI3.out]
  go_wp2_with fail
  rw [rounds_succ]
  go_wp2_with fail
  refine (after_any s wAwait (by omega) (by decide) _).mono ?_; rintro e w' ⟨rfl, rfl⟩; rw [HI4.out]
  go_wp2_with fail
  rw [rounds_succ]
  go_wp2_with fail
  refine (after_any s wIf (by omega) (by decide) _).mono ?_; rintro e w' ⟨rfl, rfl⟩; rw [HI5.out]
  go_wp2_with fail
  rw [rounds_succ]
  go_hideQ
  go_wp2_with fail
  refine (after_any s wWas (by omega) (by decide) _).mono ?_; rintro e w' ⟨rfl, rfl⟩; rw [HI6.out]
  rw [HQ'.out]
  go_wp2_with fail
  have F0 := Lib.hid f0
  refine wp_flow3 21 0 [isV (S (c :: r)), isV (.bool false), isV (.bool false), isV (S (c :: r)), isV (.int .u8 c.toNat), isV (.slice (some ⟨w.heap.size + 1 + 1 + 1, 0, none⟩) 4 4), isV (.int .i64 3), isV (.pointer (some ⟨w.heap.size + 1 + 1 + 1, 3, none⟩)), isV (.int .u8 65), isV (.bool true), isV (.bool true), isV (.bool true), isV undef, isV undef, isV undef, isV undef, isV undef, isV undef, isV undef, isV undef, isV (.bool true)] (by kernel_rfl) rfl rfl (by kernel_rfl) (by kernel_rfl) ⟨isV_mono, isV_mono, isV_mono, isV_mono, isV_mono, isV_mono, isV_mono, isV_mono, isV_mono, isV_mono, isV_mono, isV_mono, isV_mono, isV_mono, isV_mono, isV_mono, isV_mono, isV_mono, isV_mono, isV_mono, isV_mono, trivial⟩ ?each ?rest
  case each =>
    refine .cons ?_ (.cons ?_ (.cons ?_ (.cons ?_ (.cons ?_ (.cons ?_ (.cons ?_ (.cons ?_ (.cons ?_ (.cons ?_ (.cons ?_ (.cons ?_ (.cons ?_ (.cons ?_ (.cons ?_ (.cons ?_ (.cons ?_ (.cons ?_ (.cons ?_ (.cons ?_ (.cons ?_ (.nil)))))))))))))))))))))
    · intro fa fw hx hs hb
      have s15 : fa.tmps[(15 : Nat)]? = some (S (c :: r)) := (hb 15 (by kernel_rfl)).trans (by rfl)
      refine .inl ⟨wanted_free rfl, fun K hK => ?_⟩
      clear hs hb hx
      go_simp
      exact hK _ _ rfl (Ext.refl _)
    · intro fa fw hx hs hb
      obtain ⟨_, s67, rfl⟩ := hs 0 67 (by kernel_rfl) (by kernel_rfl)
      refine .inl ⟨wanted_free rfl, fun K hK => ?_⟩
      clear hs hb
      go_simp
      exact hK _ _ rfl (Ext.refl _)
    · intro fa fw hx hs hb
      obtain ⟨_, s68, rfl⟩ := hs 1 68 (by kernel_rfl) (by kernel_rfl)
      refine .inl ⟨wanted_free rfl, fun K hK => ?_⟩
      clear hs hb hx
      go_simp
      exact hK _ _ rfl (Ext.refl _)
    · intro fa fw hx hs hb
      obtain ⟨_, s69, rfl⟩ := hs 2 69 (by kernel_rfl) (by kernel_rfl)
      have s15 : fa.tmps[(15 : Nat)]? = some (S (c :: r)) := (hb 15 (by kernel_rfl)).trans (by rfl)
      refine .inl ⟨wanted_yes 2 false 69 rfl (by kernel_rfl) s69, fun K hK => ?_⟩
      clear hs hb hx
      go_simp
      exact hK _ _ rfl (Ext.refl _)
    · intro fa fw hx hs hb
      obtain ⟨_, s69, rfl⟩ := hs 2 69 (by kernel_rfl) (by kernel_rfl)
      obtain ⟨_, s70, rfl⟩ := hs 3 70 (by kernel_rfl) (by kernel_rfl)
      refine .inl ⟨wanted_yes 2 false 69 rfl (by kernel_rfl) s69, fun K hK => ?_⟩
      clear hs hb
      go_simp
      exact hK _ _ rfl (Ext.refl _)
    · intro fa fw hx hs hb
      obtain ⟨_, s69, rfl⟩ := hs 2 69 (by kernel_rfl) (by kernel_rfl)
      have s13 : fa.tmps[(13 : Nat)]? = some (.slice (some ⟨w.heap.size + 1 + 1 + 1, 0, none⟩) 4 4) := (hb 13 (by kernel_rfl)).trans (by rfl)
      refine .inl ⟨wanted_yes 2 false 69 rfl (by kernel_rfl) s69, fun K hK => ?_⟩
      clear hs hb hx
      go_simp
      exact hK _ _ rfl (Ext.refl _)
    · intro fa fw hx hs hb
      obtain ⟨_, s69, rfl⟩ := hs 2 69 (by kernel_rfl) (by kernel_rfl)
      have s14 : fa.tmps[(14 : Nat)]? = some (.int .i64 3) := (hb 14 (by kernel_rfl)).trans (by rfl)
      refine .inl ⟨wanted_yes 2 false 69 rfl (by kernel_rfl) s69, fun K hK => ?_⟩
      clear hs hb hx
      go_simp
      exact hK _ _ rfl (Ext.refl _)
    · intro fa fw hx hs hb
      obtain ⟨_, s69, rfl⟩ := hs 2 69 (by kernel_rfl) (by kernel_rfl)
      obtain ⟨_, s72, rfl⟩ := hs 5 72 (by kernel_rfl) (by kernel_rfl)
      obtain ⟨_, s73, rfl⟩ := hs 6 73 (by kernel_rfl) (by kernel_rfl)
      refine .inl ⟨wanted_yes 2 false 69 rfl (by kernel_rfl) s69, fun K hK => ?_⟩
      clear hs hb hx
      go_simp
      exact hK _ _ rfl (Ext.refl _)
    · intro fa fw hx hs hb
      obtain ⟨_, s69, rfl⟩ := hs 2 69 (by kernel_rfl) (by kernel_rfl)
      obtain ⟨_, s74, rfl⟩ := hs 7 74 (by kernel_rfl) (by kernel_rfl)
      have c0 := hx.keeps _ _ F0.out
      refine .inl ⟨wanted_yes 2 false 69 rfl (by kernel_rfl) s69, fun K hK => ?_⟩
      clear hs hb hx
      go_simp
      exact hK _ _ rfl (Ext.refl _)
    · intro fa fw hx hs hb
      obtain ⟨_, s69, rfl⟩ := hs 2 69 (by kernel_rfl) (by kernel_rfl)
      obtain ⟨_, s71, rfl⟩ := hs 4 71 (by kernel_rfl) (by kernel_rfl)
      obtain ⟨_, s75, rfl⟩ := hs 8 75 (by kernel_rfl) (by kernel_rfl)
      refine .inl ⟨wanted_yes 2 false 69 rfl (by kernel_rfl) s69, fun K hK => ?_⟩
      clear hs hb
      have hc := HC.out
      go_simp
      refine hK _ _ (boolV (w := fw) ?_) (Ext.refl _)
      simp; omega
    · intro fa fw hx hs hb
      obtain ⟨_, s69, rfl⟩ := hs 2 69 (by kernel_rfl) (by kernel_rfl)
      obtain ⟨_, s76, rfl⟩ := hs 9 76 (by kernel_rfl) (by kernel_rfl)
      refine .inl ⟨wanted_free rfl, fun K hK => ?_⟩
      clear hs hb hx
      go_simp
      exact hK _ _ rfl (Ext.refl _)
    · intro fa fw hx hs hb
      obtain ⟨_, s77, rfl⟩ := hs 10 77 (by kernel_rfl) (by kernel_rfl)
      refine .inl ⟨wanted_free rfl, fun K hK => ?_⟩
      clear hs hb hx
      go_simp
      exact hK _ _ rfl (Ext.refl _)
    · intro fa fw hx hs hb
      obtain ⟨_, s78, rfl⟩ := hs 11 78 (by kernel_rfl) (by kernel_rfl)
      exact .inr ⟨wanted_no 11 false 78 rfl (by kernel_rfl) s78, rfl⟩
    · intro fa fw hx hs hb
      obtain ⟨_, s78, rfl⟩ := hs 11 78 (by kernel_rfl) (by kernel_rfl)
      exact .inr ⟨wanted_no 11 false 78 rfl (by kernel_rfl) s78, rfl⟩
    · intro fa fw hx hs hb
      obtain ⟨_, s78, rfl⟩ := hs 11 78 (by kernel_rfl) (by kernel_rfl)
      exact .inr ⟨wanted_no 11 false 78 rfl (by kernel_rfl) s78, rfl⟩
    · intro fa fw hx hs hb
      obtain ⟨_, s78, rfl⟩ := hs 11 78 (by kernel_rfl) (by kernel_rfl)
      exact .inr ⟨wanted_no 11 false 78 rfl (by kernel_rfl) s78, rfl⟩
    · intro fa fw hx hs hb
      obtain ⟨_, s78, rfl⟩ := hs 11 78 (by kernel_rfl) (by kernel_rfl)
      exact .inr ⟨wanted_no 11 false 78 rfl (by kernel_rfl) s78, rfl⟩
    · intro fa fw hx hs hb
      obtain ⟨_, s78, rfl⟩ := hs 11 78 (by kernel_rfl) (by kernel_rfl)
      exact .inr ⟨wanted_no 11 false 78 rfl (by kernel_rfl) s78, rfl⟩
    · intro fa fw hx hs hb
      obtain ⟨_, s78, rfl⟩ := hs 11 78 (by kernel_rfl) (by kernel_rfl)
      exact .inr ⟨wanted_no 11 false 78 rfl (by kernel_rfl) s78, rfl⟩
    · intro fa fw hx hs hb
      obtain ⟨_, s78, rfl⟩ := hs 11 78 (by kernel_rfl) (by kernel_rfl)
      exact .inr ⟨wanted_no 11 false 78 rfl (by kernel_rfl) s78, rfl⟩
    · intro fa fw hx hs hb
      obtain ⟨_, s78, rfl⟩ := hs 11 78 (by kernel_rfl) (by kernel_rfl)
      obtain ⟨_, s86, rfl⟩ := hs 19 86 (by kernel_rfl) (by kernel_rfl)
      refine .inl ⟨wanted_free rfl, fun K hK => ?_⟩
      clear hs hb hx
      go_simp
      exact hK _ _ rfl (Ext.refl _)
  case rest =>
    intro w2 hxw2
    rintro _ rfl
    rintro _ rfl
    rintro _ rfl
    rintro _ rfl
    rintro _ rfl
    rintro _ rfl
    rintro _ rfl
    rintro _ rfl
    rintro _ rfl
    rintro _ rfl
    rintro _ rfl
    rintro _ rfl
    rintro _ rfl
    rintro _ rfl
    rintro _ rfl
    rintro _ rfl
    rintro _ rfl
    rintro _ rfl
    rintro _ rfl
    rintro _ rfl
    rintro _ rfl
    simp only [putAll, List.take, Act.put, List.setIfInBounds_toArray, List.set_cons_zero, List.set_cons_succ]
    refine wpAny_done (by kernel_rfl) ?_ _
    go_wp2
    exact bodyPost_ret (v := Pr3 (.slice none 0 0) (S s) (.bool false)) (by simp [results, Tryz.results42, go_sem]) rfl ⟨_, _, rfl, xf.trans hxw2⟩
set_option maxHeartbeats 400000 in
theorem from_w6_hi (w : World) (s : List UInt8) (l : Nat) (hs : s.length ≤ 5000) (hl : l ≤ 13) (hi0 : isP wNothing s = false) (hi1 : isP wPause s = false) (hi2 : isP wHalt s = false) (hi3 : isP wEmit s = false) (hi4 : isP wAwait s = false) (hi5 : isP wIf s = false) (hi6 : isP wWas s = true) {c : UInt8} {r : List UInt8} (hq : restP wWas s = c :: r) (hc : 67 < c.toNat) :
    Calls Tryz.prog 42 #[S s, I ((l : Int) + 1)] w fun e w' => ∃ u v, e = .returned (Pr3 u v (.bool false)) ∧ Ext w w' := by
  have hr := True.intro
  have HC := Lib.hid hc; clear hc
  have HI0 := Lib.hid hi0; clear hi0
  have HI1 := Lib.hid hi1; clear hi1
  have HI2 := Lib.hid hi2; clear hi2
  have HI3 := Lib.hid hi3; clear hi3
  have HI4 := Lib.hid hi4; clear hi4
  have HI5 := Lib.hid hi5; clear hi5
  have HI6 := Lib.hid hi6; clear hi6
  have HQ' := Lib.hid hq; clear hq
  go_enter Tryz.func42, Tryz.ntmps42
  go_wp2_with fail
  refine wp_loop_rounds 4 ?_
  rw [rounds_succ]
  go_wp2_with fail
  refine (after_any s wNothing (by omega) (by decide) _).mono ?_; rintro e w' ⟨rfl, rfl⟩; rw [HI0.out]
  go_wp2_with fail
  rw [rounds_succ]
  go_wp2_with fail
  refine (after_any s wPause (by omega) (by decide) _).mono ?_; rintro e w' ⟨rfl, rfl⟩; rw [HI1.out]
  go_wp2_with fail
  rw [rounds_succ]
  go_wp2_with fail
  refine (after_any s wHalt (by omega) (by decide) _).mono ?_; rintro e w' ⟨rfl, rfl⟩; rw [HI2.out]
  go_wp2_with fail
  rw [rounds_succ]
  go_wp2_with fail
  rw [rfW_eq]
  have d0 := rfW_word w 0 _ rfl
  have d1 := rfW_word w 1 _ rfl
  have d2 := rfW_word w 2 _ rfl
  have d3 := rfW_word w 3 _ rfl
  have e0 := rfW_kind w 3 _ rfl
  have f0 := rfW_first w 3 _ rfl
  have xf := rfW_ext w
  have hsz := rfW_size w
  generalize rfW w = wf at *
  refine wp_loop_rounds 5 ?_
  rw [rounds_succ]
  go_wp2_with fail
  refine (after_any s wEmit (by omega) (by decide) _).mono ?_; rintro e w' ⟨rfl, rfl⟩; rw [HI3.out]
  go_wp2_with fail
  rw [rounds_succ]
  go_wp2_with fail
  refine (after_any s wAwait (by omega) (by decide) _).mono ?_; rintro e w' ⟨rfl, rfl⟩; rw [HI4.out]
  go_wp2_with fail
  rw [rounds_succ]
  go_wp2_with fail
  refine (after_any s wIf (by omega) (by decide) _).mono ?_; rintro e w' ⟨rfl, rfl⟩; rw [HI5.out]
  go_wp2_with fail
  rw [rounds_succ]
  go_hideQ
  go_wp2_with fail
  refine (after_any s wWas (by omega) (by decide) _).mono ?_; rintro e w' ⟨rfl, rfl⟩; rw [HI6.out]
  rw [HQ'.out]
  go_wp2_with fail
  have F0 := Lib.hid f0
  refine wp_flow3 21 0 [isV (S (c :: r)), isV (.bool false), isV (.bool false), isV (S (c :: r)), isV (.int .u8 c.toNat), isV (.slice (some ⟨w.heap.size + 1 + 1 + 1, 0, none⟩) 4 4), isV (.int .i64 3), isV (.pointer (some ⟨w.heap.size + 1 + 1 + 1, 3, none⟩)), isV (.int .u8 65), isV (.bool false), isV (.bool false), isV (.bool false), isV (S (c :: r)), isV (.int .u8 c.toNat), isV (.slice (some ⟨w.heap.size + 1 + 1 + 1, 0, none⟩) 4 4), isV (.int .i64 3), isV (.pointer (some ⟨w.heap.size + 1 + 1 + 1, 3, none⟩)), isV (.int .u8 65), isV (.int .u8 67), isV (.bool true), isV (.bool true)] (by kernel_rfl) rfl rfl (by kernel_rfl) (by kernel_rfl) ⟨isV_mono, isV_mono, isV_mono, isV_mono, isV_mono, isV_mono, isV_mono, isV_mono, isV_mono, isV_mono, isV_mono, isV_mono, isV_mono, isV_mono, isV_mono, isV_mono, isV_mono, isV_mono, isV_mono, isV_mono, isV_mono, trivial⟩ ?each ?rest
  case each =>
    refine .cons ?_ (.cons ?_ (.cons ?_ (.cons ?_ (.cons ?_ (.cons ?_ (.cons ?_ (.cons ?_ (.cons ?_ (.cons ?_ (.cons ?_ (.cons ?_ (.cons ?_ (.cons ?_ (.cons ?_ (.cons ?_ (.cons ?_ (.cons ?_ (.cons ?_ (.cons ?_ (.cons ?_ (.nil)))))))))))))))))))))
    · intro fa fw hx hs hb
      have s15 : fa.tmps[(15 : Nat)]? = some (S (c :: r)) := (hb 15 (by kernel_rfl)).trans (by rfl)
      refine .inl ⟨wanted_free rfl, fun K hK => ?_⟩
      clear hs hb hx
      go_simp
      exact hK _ _ rfl (Ext.refl _)
    · intro fa fw hx hs hb
      obtain ⟨_, s67, rfl⟩ := hs 0 67 (by kernel_rfl) (by kernel_rfl)
      refine .inl ⟨wanted_free rfl, fun K hK => ?_⟩
      clear hs hb
      go_simp
      exact hK _ _ rfl (Ext.refl _)
    · intro fa fw hx hs hb
      obtain ⟨_, s68, rfl⟩ := hs 1 68 (by kernel_rfl) (by kernel_rfl)
      refine .inl ⟨wanted_free rfl, fun K hK => ?_⟩
      clear hs hb hx
      go_simp
      exact hK _ _ rfl (Ext.refl _)
    · intro fa fw hx hs hb
      obtain ⟨_, s69, rfl⟩ := hs 2 69 (by kernel_rfl) (by kernel_rfl)
      have s15 : fa.tmps[(15 : Nat)]? = some (S (c :: r)) := (hb 15 (by kernel_rfl)).trans (by rfl)
      refine .inl ⟨wanted_yes 2 false 69 rfl (by kernel_rfl) s69, fun K hK => ?_⟩
      clear hs hb hx
      go_simp
      exact hK _ _ rfl (Ext.refl _)
    · intro fa fw hx hs hb
      obtain ⟨_, s69, rfl⟩ := hs 2 69 (by kernel_rfl) (by kernel_rfl)
      obtain ⟨_, s70, rfl⟩ := hs 3 70 (by kernel_rfl) (by kernel_rfl)
      refine .inl ⟨wanted_yes 2 false 69 rfl (by kernel_rfl) s69, fun K hK => ?_⟩
      clear hs hb
      go_simp
      exact hK _ _ rfl (Ext.refl _)
    · intro fa fw hx hs hb
      obtain ⟨_, s69, rfl⟩ := hs 2 69 (by kernel_rfl) (by kernel_rfl)
      have s13 : fa.tmps[(13 : Nat)]? = some (.slice (some ⟨w.heap.size + 1 + 1 + 1, 0, none⟩) 4 4) := (hb 13 (by kernel_rfl)).trans (by rfl)
      refine .inl ⟨wanted_yes 2 false 69 rfl (by kernel_rfl) s69, fun K hK => ?_⟩
      clear hs hb hx
      go_simp
      exact hK _ _ rfl (Ext.refl _)
    · intro fa fw hx hs hb
      obtain ⟨_, s69, rfl⟩ := hs 2 69 (by kernel_rfl) (by kernel_rfl)
      have s14 : fa.tmps[(14 : Nat)]? = some (.int .i64 3) := (hb 14 (by kernel_rfl)).trans (by rfl)
      refine .inl ⟨wanted_yes 2 false 69 rfl (by kernel_rfl) s69, fun K hK => ?_⟩
      clear hs hb hx
      go_simp
      exact hK _ _ rfl (Ext.refl _)
    · intro fa fw hx hs hb
      obtain ⟨_, s69, rfl⟩ := hs 2 69 (by kernel_rfl) (by kernel_rfl)
      obtain ⟨_, s72, rfl⟩ := hs 5 72 (by kernel_rfl) (by kernel_rfl)
      obtain ⟨_, s73, rfl⟩ := hs 6 73 (by kernel_rfl) (by kernel_rfl)
      refine .inl ⟨wanted_yes 2 false 69 rfl (by kernel_rfl) s69, fun K hK => ?_⟩
      clear hs hb hx
      go_simp
      exact hK _ _ rfl (Ext.refl _)
    · intro fa fw hx hs hb
      obtain ⟨_, s69, rfl⟩ := hs 2 69 (by kernel_rfl) (by kernel_rfl)
      obtain ⟨_, s74, rfl⟩ := hs 7 74 (by kernel_rfl) (by kernel_rfl)
      have c0 := hx.keeps _ _ F0.out
      refine .inl ⟨wanted_yes 2 false 69 rfl (by kernel_rfl) s69, fun K hK => ?_⟩
      clear hs hb hx
      go_simp
      exact hK _ _ rfl (Ext.refl _)
    · intro fa fw hx hs hb
      obtain ⟨_, s69, rfl⟩ := hs 2 69 (by kernel_rfl) (by kernel_rfl)
      obtain ⟨_, s71, rfl⟩ := hs 4 71 (by kernel_rfl) (by kernel_rfl)
      obtain ⟨_, s75, rfl⟩ := hs 8 75 (by kernel_rfl) (by kernel_rfl)
      refine .inl ⟨wanted_yes 2 false 69 rfl (by kernel_rfl) s69, fun K hK => ?_⟩
      clear hs hb
      have hc := HC.out
      go_simp
      refine hK _ _ (boolV (w := fw) ?_) (Ext.refl _)
      simp; omega
    · intro fa fw hx hs hb
      obtain ⟨_, s69, rfl⟩ := hs 2 69 (by kernel_rfl) (by kernel_rfl)
      obtain ⟨_, s76, rfl⟩ := hs 9 76 (by kernel_rfl) (by kernel_rfl)
      refine .inl ⟨wanted_free rfl, fun K hK => ?_⟩
      clear hs hb hx
      go_simp
      exact hK _ _ rfl (Ext.refl _)
    · intro fa fw hx hs hb
      obtain ⟨_, s77, rfl⟩ := hs 10 77 (by kernel_rfl) (by kernel_rfl)
      refine .inl ⟨wanted_free rfl, fun K hK => ?_⟩
      clear hs hb hx
      go_simp
      exact hK _ _ rfl (Ext.refl _)
    · intro fa fw hx hs hb
      obtain ⟨_, s78, rfl⟩ := hs 11 78 (by kernel_rfl) (by kernel_rfl)
      have s15 : fa.tmps[(15 : Nat)]? = some (S (c :: r)) := (hb 15 (by kernel_rfl)).trans (by rfl)
      refine .inl ⟨wanted_yes 11 false 78 rfl (by kernel_rfl) s78, fun K hK => ?_⟩
      clear hs hb hx
      go_simp
      exact hK _ _ rfl (Ext.refl _)
    · intro fa fw hx hs hb
      obtain ⟨_, s78, rfl⟩ := hs 11 78 (by kernel_rfl) (by kernel_rfl)
      obtain ⟨_, s79, rfl⟩ := hs 12 79 (by kernel_rfl) (by kernel_rfl)
      refine .inl ⟨wanted_yes 11 false 78 rfl (by kernel_rfl) s78, fun K hK => ?_⟩
      clear hs hb
      go_simp
      exact hK _ _ rfl (Ext.refl _)
    · intro fa fw hx hs hb
      obtain ⟨_, s78, rfl⟩ := hs 11 78 (by kernel_rfl) (by kernel_rfl)
      have s13 : fa.tmps[(13 : Nat)]? = some (.slice (some ⟨w.heap.size + 1 + 1 + 1, 0, none⟩) 4 4) := (hb 13 (by kernel_rfl)).trans (by rfl)
      refine .inl ⟨wanted_yes 11 false 78 rfl (by kernel_rfl) s78, fun K hK => ?_⟩
      clear hs hb hx
      go_simp
      exact hK _ _ rfl (Ext.refl _)
    · intro fa fw hx hs hb
      obtain ⟨_, s78, rfl⟩ := hs 11 78 (by kernel_rfl) (by kernel_rfl)
      have s14 : fa.tmps[(14 : Nat)]? = some (.int .i64 3) := (hb 14 (by kernel_rfl)).trans (by rfl)
      refine .inl ⟨wanted_yes 11 false 78 rfl (by kernel_rfl) s78, fun K hK => ?_⟩
      clear hs hb hx
      go_simp
      exact hK _ _ rfl (Ext.refl _)
    · intro fa fw hx hs hb
      obtain ⟨_, s78, rfl⟩ := hs 11 78 (by kernel_rfl) (by kernel_rfl)
      obtain ⟨_, s81, rfl⟩ := hs 14 81 (by kernel_rfl) (by kernel_rfl)
      obtain ⟨_, s82, rfl⟩ := hs 15 82 (by kernel_rfl) (by kernel_rfl)
      refine .inl ⟨wanted_yes 11 false 78 rfl (by kernel_rfl) s78, fun K hK => ?_⟩
      clear hs hb hx
      go_simp
      exact hK _ _ rfl (Ext.refl _)
    · intro fa fw hx hs hb
      obtain ⟨_, s78, rfl⟩ := hs 11 78 (by kernel_rfl) (by kernel_rfl)
      obtain ⟨_, s83, rfl⟩ := hs 16 83 (by kernel_rfl) (by kernel_rfl)
      have c0 := hx.keeps _ _ F0.out
      refine .inl ⟨wanted_yes 11 false 78 rfl (by kernel_rfl) s78, fun K hK => ?_⟩
      clear hs hb hx
      go_simp
      exact hK _ _ rfl (Ext.refl _)
    · intro fa fw hx hs hb
      obtain ⟨_, s78, rfl⟩ := hs 11 78 (by kernel_rfl) (by kernel_rfl)
      obtain ⟨_, s84, rfl⟩ := hs 17 84 (by kernel_rfl) (by kernel_rfl)
      refine .inl ⟨wanted_yes 11 false 78 rfl (by kernel_rfl) s78, fun K hK => ?_⟩
      clear hs hb
      go_simp
      exact hK _ _ rfl (Ext.refl _)
    · intro fa fw hx hs hb
      obtain ⟨_, s78, rfl⟩ := hs 11 78 (by kernel_rfl) (by kernel_rfl)
      obtain ⟨_, s80, rfl⟩ := hs 13 80 (by kernel_rfl) (by kernel_rfl)
      obtain ⟨_, s85, rfl⟩ := hs 18 85 (by kernel_rfl) (by kernel_rfl)
      refine .inl ⟨wanted_yes 11 false 78 rfl (by kernel_rfl) s78, fun K hK => ?_⟩
      clear hs hb
      have hc := HC.out
      go_simp
      refine hK _ _ (boolV (w := fw) ?_) (Ext.refl _)
      simp; omega
    · intro fa fw hx hs hb
      obtain ⟨_, s78, rfl⟩ := hs 11 78 (by kernel_rfl) (by kernel_rfl)
      obtain ⟨_, s86, rfl⟩ := hs 19 86 (by kernel_rfl) (by kernel_rfl)
      refine .inl ⟨wanted_free rfl, fun K hK => ?_⟩
      clear hs hb hx
      go_simp
      exact hK _ _ rfl (Ext.refl _)
  case rest =>
    intro w2 hxw2
    rintro _ rfl
    rintro _ rfl
    rintro _ rfl
    rintro _ rfl
    rintro _ rfl
    rintro _ rfl
    rintro _ rfl
    rintro _ rfl
    rintro _ rfl
    rintro _ rfl
    rintro _ rfl
    rintro _ rfl
    rintro _ rfl
    rintro _ rfl
    rintro _ rfl
    rintro _ rfl
    rintro _ rfl
    rintro _ rfl
    rintro _ rfl
    rintro _ rfl
    rintro _ rfl
    simp only [putAll, List.take, Act.put, List.setIfInBounds_toArray, List.set_cons_zero, List.set_cons_succ]
    refine wpAny_done (by kernel_rfl) ?_ _
    go_wp2
    exact bodyPost_ret (v := Pr3 (.slice none 0 0) (S s) (.bool false)) (by simp [results, Tryz.results42, go_sem]) rfl ⟨_, _, rfl, xf.trans hxw2⟩
set_option maxHeartbeats 400000 in
theorem from_w6_0 (w : World) (s : List UInt8) (l : Nat) (hs : s.length ≤ 5000) (hl : l ≤ 13) (hi0 : isP wNothing s = false) (hi1 : isP wPause s = false) (hi2 : isP wHalt s = false) (hi3 : isP wEmit s = false) (hi4 : isP wAwait s = false) (hi5 : isP wIf s = false) (hi6 : isP wWas s = true) {r : List UInt8} (hq : restP wWas s = 65 :: r) {n : Nat} (hN : FromOK n) (hn : l < n) {T : Option (Tr × List UInt8)} (ht : rtwoT (rreadT n) l ⟨8, 0⟩ wThen wElse wEnd r = T) :
    Calls Tryz.prog 42 #[S s, I ((l : Int) + 1)] w (FromPost w (l + 1) T) := by
  have HI0 := Lib.hid hi0; clear hi0
  have HI1 := Lib.hid hi1; clear hi1
  have HI2 := Lib.hid hi2; clear hi2
  have HI3 := Lib.hid hi3; clear hi3
  have HI4 := Lib.hid hi4; clear hi4
  have HI5 := Lib.hid hi5; clear hi5
  have HI6 := Lib.hid hi6; clear hi6
  have HQ' := Lib.hid hq; clear hq
  have HT' := Lib.hid ht; clear ht
  go_enter Tryz.func42, Tryz.ntmps42
  go_wp2_with fail
  refine wp_loop_rounds 4 ?_
  rw [rounds_succ]
  go_wp2_with fail
  refine (after_any s wNothing (by omega) (by decide) _).mono ?_; rintro e w' ⟨rfl, rfl⟩; rw [HI0.out]
  go_wp2_with fail
  rw [rounds_succ]
  go_wp2_with fail
  refine (after_any s wPause (by omega) (by decide) _).mono ?_; rintro e w' ⟨rfl, rfl⟩; rw [HI1.out]
  go_wp2_with fail
  rw [rounds_succ]
  go_wp2_with fail
  refine (after_any s wHalt (by omega) (by decide) _).mono ?_; rintro e w' ⟨rfl, rfl⟩; rw [HI2.out]
  go_wp2_with fail
  rw [rounds_succ]
  go_wp2_with fail
  rw [rfW_eq]
  have d0 := rfW_word w 0 _ rfl
  have d1 := rfW_word w 1 _ rfl
  have d2 := rfW_word w 2 _ rfl
  have d3 := rfW_word w 3 _ rfl
  have e0 := rfW_kind w 3 _ rfl
  have f0 := rfW_first w 3 _ rfl
  have xf := rfW_ext w
  have hsz := rfW_size w
  generalize rfW w = wf at *
  refine wp_loop_rounds 5 ?_
  rw [rounds_succ]
  go_wp2_with fail
  refine (after_any s wEmit (by omega) (by decide) _).mono ?_; rintro e w' ⟨rfl, rfl⟩; rw [HI3.out]
  go_wp2_with fail
  rw [rounds_succ]
  go_wp2_with fail
  refine (after_any s wAwait (by omega) (by decide) _).mono ?_; rintro e w' ⟨rfl, rfl⟩; rw [HI4.out]
  go_wp2_with fail
  rw [rounds_succ]
  go_wp2_with fail
  refine (after_any s wIf (by omega) (by decide) _).mono ?_; rintro e w' ⟨rfl, rfl⟩; rw [HI5.out]
  go_wp2_with fail
  rw [rounds_succ]
  go_hideQ
  go_wp2_with fail
  refine (after_any s wWas (by omega) (by decide) _).mono ?_; rintro e w' ⟨rfl, rfl⟩; rw [HI6.out]
  rw [HQ'.out]
  go_wp2_with fail
  have F0 := Lib.hid f0
  refine wp_flow3 21 0 [isV (S (65 :: r)), isV (.bool false), isV (.bool false), isV (S (65 :: r)), isV (.int .u8 65), isV (.slice (some ⟨w.heap.size + 1 + 1 + 1, 0, none⟩) 4 4), isV (.int .i64 3), isV (.pointer (some ⟨w.heap.size + 1 + 1 + 1, 3, none⟩)), isV (.int .u8 65), isV (.bool false), isV (.bool false), isV (.bool false), isV (S (65 :: r)), isV (.int .u8 65), isV (.slice (some ⟨w.heap.size + 1 + 1 + 1, 0, none⟩) 4 4), isV (.int .i64 3), isV (.pointer (some ⟨w.heap.size + 1 + 1 + 1, 3, none⟩)), isV (.int .u8 65), isV (.int .u8 67), isV (.bool false), isV (.bool false)] (by kernel_rfl) rfl rfl (by kernel_rfl) (by kernel_rfl) ⟨isV_mono, isV_mono, isV_mono, isV_mono, isV_mono, isV_mono, isV_mono, isV_mono, isV_mono, isV_mono, isV_mono, isV_mono, isV_mono, isV_mono, isV_mono, isV_mono, isV_mono, isV_mono, isV_mono, isV_mono, isV_mono, trivial⟩ ?each ?rest
  case each =>
    refine .cons ?_ (.cons ?_ (.cons ?_ (.cons ?_ (.cons ?_ (.cons ?_ (.cons ?_ (.cons ?_ (.cons ?_ (.cons ?_ (.cons ?_ (.cons ?_ (.cons ?_ (.cons ?_ (.cons ?_ (.cons ?_ (.cons ?_ (.cons ?_ (.cons ?_ (.cons ?_ (.cons ?_ (.nil)))))))))))))))))))))
    · intro fa fw hx hs hb
      have s15 : fa.tmps[(15 : Nat)]? = some (S (65 :: r)) := (hb 15 (by kernel_rfl)).trans (by rfl)
      refine .inl ⟨wanted_free rfl, fun K hK => ?_⟩
      clear hs hb hx
      go_simp
      exact hK _ _ rfl (Ext.refl _)
    · intro fa fw hx hs hb
      obtain ⟨_, s67, rfl⟩ := hs 0 67 (by kernel_rfl) (by kernel_rfl)
      refine .inl ⟨wanted_free rfl, fun K hK => ?_⟩
      clear hs hb
      go_simp
      exact hK _ _ rfl (Ext.refl _)
    · intro fa fw hx hs hb
      obtain ⟨_, s68, rfl⟩ := hs 1 68 (by kernel_rfl) (by kernel_rfl)
      refine .inl ⟨wanted_free rfl, fun K hK => ?_⟩
      clear hs hb hx
      go_simp
      exact hK _ _ rfl (Ext.refl _)
    · intro fa fw hx hs hb
      obtain ⟨_, s69, rfl⟩ := hs 2 69 (by kernel_rfl) (by kernel_rfl)
      have s15 : fa.tmps[(15 : Nat)]? = some (S (65 :: r)) := (hb 15 (by kernel_rfl)).trans (by rfl)
      refine .inl ⟨wanted_yes 2 false 69 rfl (by kernel_rfl) s69, fun K hK => ?_⟩
      clear hs hb hx
      go_simp
      exact hK _ _ rfl (Ext.refl _)
    · intro fa fw hx hs hb
      obtain ⟨_, s69, rfl⟩ := hs 2 69 (by kernel_rfl) (by kernel_rfl)
      obtain ⟨_, s70, rfl⟩ := hs 3 70 (by kernel_rfl) (by kernel_rfl)
      refine .inl ⟨wanted_yes 2 false 69 rfl (by kernel_rfl) s69, fun K hK => ?_⟩
      clear hs hb
      go_simp
      exact hK _ _ rfl (Ext.refl _)
    · intro fa fw hx hs hb
      obtain ⟨_, s69, rfl⟩ := hs 2 69 (by kernel_rfl) (by kernel_rfl)
      have s13 : fa.tmps[(13 : Nat)]? = some (.slice (some ⟨w.heap.size + 1 + 1 + 1, 0, none⟩) 4 4) := (hb 13 (by kernel_rfl)).trans (by rfl)
      refine .inl ⟨wanted_yes 2 false 69 rfl (by kernel_rfl) s69, fun K hK => ?_⟩
      clear hs hb hx
      go_simp
      exact hK _ _ rfl (Ext.refl _)
    · intro fa fw hx hs hb
      obtain ⟨_, s69, rfl⟩ := hs 2 69 (by kernel_rfl) (by kernel_rfl)
      have s14 : fa.tmps[(14 : Nat)]? = some (.int .i64 3) := (hb 14 (by kernel_rfl)).trans (by rfl)
      refine .inl ⟨wanted_yes 2 false 69 rfl (by kernel_rfl) s69, fun K hK => ?_⟩
      clear hs hb hx
      go_simp
      exact hK _ _ rfl (Ext.refl _)
    · intro fa fw hx hs hb
      obtain ⟨_, s69, rfl⟩ := hs 2 69 (by kernel_rfl) (by kernel_rfl)
      obtain ⟨_, s72, rfl⟩ := hs 5 72 (by kernel_rfl) (by kernel_rfl)
      obtain ⟨_, s73, rfl⟩ := hs 6 73 (by kernel_rfl) (by kernel_rfl)
      refine .inl ⟨wanted_yes 2 false 69 rfl (by kernel_rfl) s69, fun K hK => ?_⟩
      clear hs hb hx
      go_simp
      exact hK _ _ rfl (Ext.refl _)
    · intro fa fw hx hs hb
      obtain ⟨_, s69, rfl⟩ := hs 2 69 (by kernel_rfl) (by kernel_rfl)
      obtain ⟨_, s74, rfl⟩ := hs 7 74 (by kernel_rfl) (by kernel_rfl)
      have c0 := hx.keeps _ _ F0.out
      refine .inl ⟨wanted_yes 2 false 69 rfl (by kernel_rfl) s69, fun K hK => ?_⟩
      clear hs hb hx
      go_simp
      exact hK _ _ rfl (Ext.refl _)
    · intro fa fw hx hs hb
      obtain ⟨_, s69, rfl⟩ := hs 2 69 (by kernel_rfl) (by kernel_rfl)
      obtain ⟨_, s71, rfl⟩ := hs 4 71 (by kernel_rfl) (by kernel_rfl)
      obtain ⟨_, s75, rfl⟩ := hs 8 75 (by kernel_rfl) (by kernel_rfl)
      refine .inl ⟨wanted_yes 2 false 69 rfl (by kernel_rfl) s69, fun K hK => ?_⟩
      clear hs hb
      go_simp
      exact hK _ _ rfl (Ext.refl _)
    · intro fa fw hx hs hb
      obtain ⟨_, s69, rfl⟩ := hs 2 69 (by kernel_rfl) (by kernel_rfl)
      obtain ⟨_, s76, rfl⟩ := hs 9 76 (by kernel_rfl) (by kernel_rfl)
      refine .inl ⟨wanted_free rfl, fun K hK => ?_⟩
      clear hs hb hx
      go_simp
      exact hK _ _ rfl (Ext.refl _)
    · intro fa fw hx hs hb
      obtain ⟨_, s77, rfl⟩ := hs 10 77 (by kernel_rfl) (by kernel_rfl)
      refine .inl ⟨wanted_free rfl, fun K hK => ?_⟩
      clear hs hb hx
      go_simp
      exact hK _ _ rfl (Ext.refl _)
    · intro fa fw hx hs hb
      obtain ⟨_, s78, rfl⟩ := hs 11 78 (by kernel_rfl) (by kernel_rfl)
      have s15 : fa.tmps[(15 : Nat)]? = some (S (65 :: r)) := (hb 15 (by kernel_rfl)).trans (by rfl)
      refine .inl ⟨wanted_yes 11 false 78 rfl (by kernel_rfl) s78, fun K hK => ?_⟩
      clear hs hb hx
      go_simp
      exact hK _ _ rfl (Ext.refl _)
    · intro fa fw hx hs hb
      obtain ⟨_, s78, rfl⟩ := hs 11 78 (by kernel_rfl) (by kernel_rfl)
      obtain ⟨_, s79, rfl⟩ := hs 12 79 (by kernel_rfl) (by kernel_rfl)
      refine .inl ⟨wanted_yes 11 false 78 rfl (by kernel_rfl) s78, fun K hK => ?_⟩
      clear hs hb
      go_simp
      exact hK _ _ rfl (Ext.refl _)
    · intro fa fw hx hs hb
      obtain ⟨_, s78, rfl⟩ := hs 11 78 (by kernel_rfl) (by kernel_rfl)
      have s13 : fa.tmps[(13 : Nat)]? = some (.slice (some ⟨w.heap.size + 1 + 1 + 1, 0, none⟩) 4 4) := (hb 13 (by kernel_rfl)).trans (by rfl)
      refine .inl ⟨wanted_yes 11 false 78 rfl (by kernel_rfl) s78, fun K hK => ?_⟩
      clear hs hb hx
      go_simp
      exact hK _ _ rfl (Ext.refl _)
    · intro fa fw hx hs hb
      obtain ⟨_, s78, rfl⟩ := hs 11 78 (by kernel_rfl) (by kernel_rfl)
      have s14 : fa.tmps[(14 : Nat)]? = some (.int .i64 3) := (hb 14 (by kernel_rfl)).trans (by rfl)
      refine .inl ⟨wanted_yes 11 false 78 rfl (by kernel_rfl) s78, fun K hK => ?_⟩
      clear hs hb hx
      go_simp
      exact hK _ _ rfl (Ext.refl _)
    · intro fa fw hx hs hb
      obtain ⟨_, s78, rfl⟩ := hs 11 78 (by kernel_rfl) (by kernel_rfl)
      obtain ⟨_, s81, rfl⟩ := hs 14 81 (by kernel_rfl) (by kernel_rfl)
      obtain ⟨_, s82, rfl⟩ := hs 15 82 (by kernel_rfl) (by kernel_rfl)
      refine .inl ⟨wanted_yes 11 false 78 rfl (by kernel_rfl) s78, fun K hK => ?_⟩
      clear hs hb hx
      go_simp
      exact hK _ _ rfl (Ext.refl _)
    · intro fa fw hx hs hb
      obtain ⟨_, s78, rfl⟩ := hs 11 78 (by kernel_rfl) (by kernel_rfl)
      obtain ⟨_, s83, rfl⟩ := hs 16 83 (by kernel_rfl) (by kernel_rfl)
      have c0 := hx.keeps _ _ F0.out
      refine .inl ⟨wanted_yes 11 false 78 rfl (by kernel_rfl) s78, fun K hK => ?_⟩
      clear hs hb hx
      go_simp
      exact hK _ _ rfl (Ext.refl _)
    · intro fa fw hx hs hb
      obtain ⟨_, s78, rfl⟩ := hs 11 78 (by kernel_rfl) (by kernel_rfl)
      obtain ⟨_, s84, rfl⟩ := hs 17 84 (by kernel_rfl) (by kernel_rfl)
      refine .inl ⟨wanted_yes 11 false 78 rfl (by kernel_rfl) s78, fun K hK => ?_⟩
      clear hs hb
      go_simp
      exact hK _ _ rfl (Ext.refl _)
    · intro fa fw hx hs hb
      obtain ⟨_, s78, rfl⟩ := hs 11 78 (by kernel_rfl) (by kernel_rfl)
      obtain ⟨_, s80, rfl⟩ := hs 13 80 (by kernel_rfl) (by kernel_rfl)
      obtain ⟨_, s85, rfl⟩ := hs 18 85 (by kernel_rfl) (by kernel_rfl)
      refine .inl ⟨wanted_yes 11 false 78 rfl (by kernel_rfl) s78, fun K hK => ?_⟩
      clear hs hb
      go_simp
      exact hK _ _ rfl (Ext.refl _)
    · intro fa fw hx hs hb
      obtain ⟨_, s78, rfl⟩ := hs 11 78 (by kernel_rfl) (by kernel_rfl)
      obtain ⟨_, s86, rfl⟩ := hs 19 86 (by kernel_rfl) (by kernel_rfl)
      refine .inl ⟨wanted_free rfl, fun K hK => ?_⟩
      clear hs hb hx
      go_simp
      exact hK _ _ rfl (Ext.refl _)
  case rest =>
    intro w2 hxw2
    rintro _ rfl
    rintro _ rfl
    rintro _ rfl
    rintro _ rfl
    rintro _ rfl
    rintro _ rfl
    rintro _ rfl
    rintro _ rfl
    rintro _ rfl
    rintro _ rfl
    rintro _ rfl
    rintro _ rfl
    rintro _ rfl
    rintro _ rfl
    rintro _ rfl
    rintro _ rfl
    rintro _ rfl
    rintro _ rfl
    rintro _ rfl
    rintro _ rfl
    rintro _ rfl
    simp only [putAll, List.take, Act.put, List.setIfInBounds_toArray, List.set_cons_zero, List.set_cons_succ]
    refine wpAny_done (by kernel_rfl) ?_ _
    go_wp2_with fail
    have F1 := Lib.hid (hxw2.keeps _ _ F0.out); have E1 := Lib.hid (hxw2.keeps _ _ e0)
    refine wp_flow3 14 1 [isV (.slice (some ⟨w.heap.size + 1 + 1, 0, none⟩) 4 4), isV (.int .i64 3), isV (.pointer (some ⟨w.heap.size + 1 + 1, 3, none⟩)), isV (.int .i64 8), isV (S (65 :: r)), isV (.int .u8 65), isV (.slice (some ⟨w.heap.size + 1 + 1 + 1, 0, none⟩) 4 4), isV (.int .i64 3), isV (.pointer (some ⟨w.heap.size + 1 + 1 + 1, 3, none⟩)), isV (.int .u8 65), isV (.int .u8 0), isV (.int .i64 0), isV (.agg #[.int .i64 8, .int .i64 0]), fun v w => ∃ b, v = .pointer (some ⟨b, 0, none⟩) ∧ w2.heap.size ≤ b ∧ w.cell? ⟨b, 0, none⟩ = some (I 0) ∧ w.cell? ⟨b, 1, none⟩ = some (I 0) ∧ w.frozen? ⟨b, 0, none⟩ = false ∧ w.frozen? ⟨b, 1, none⟩ = false] (by kernel_rfl) rfl rfl (by kernel_rfl) (by kernel_rfl) ⟨isV_mono, isV_mono, isV_mono, isV_mono, isV_mono, isV_mono, isV_mono, isV_mono, isV_mono, isV_mono, isV_mono, isV_mono, isV_mono, fun v w w' ⟨b, e, h0, h1, h2, h3, h4⟩ hx => ⟨b, e, h0, hx.keeps _ _ h1, hx.keeps _ _ h2, (Below.frozen (p := ⟨b, 0, none⟩) hx (lt_of_cell h1)).trans h3, (Below.frozen (p := ⟨b, 1, none⟩) hx (lt_of_cell h2)).trans h4⟩, trivial⟩ ?each ?rest
    case each =>
      refine .cons ?_ (.cons ?_ (.cons ?_ (.cons ?_ (.cons ?_ (.cons ?_ (.cons ?_ (.cons ?_ (.cons ?_ (.cons ?_ (.cons ?_ (.cons ?_ (.cons ?_ (.cons ?_ (.nil))))))))))))))
      · intro fa fw hx hs hb
        have s12 : fa.tmps[(12 : Nat)]? = some (.slice (some ⟨w.heap.size + 1 + 1, 0, none⟩) 4 4) := (hb 12 (by kernel_rfl)).trans (by rfl)
        refine .inl ⟨wanted_free rfl, fun K hK => ?_⟩
        clear hs hb hx
        go_simp
        exact hK _ _ rfl (Ext.refl _)
      · intro fa fw hx hs hb
        have s14 : fa.tmps[(14 : Nat)]? = some (.int .i64 3) := (hb 14 (by kernel_rfl)).trans (by rfl)
        refine .inl ⟨wanted_free rfl, fun K hK => ?_⟩
        clear hs hb hx
        go_simp
        exact hK _ _ rfl (Ext.refl _)
      · intro fa fw hx hs hb
        obtain ⟨_, s89, rfl⟩ := hs 0 89 (by kernel_rfl) (by kernel_rfl)
        obtain ⟨_, s90, rfl⟩ := hs 1 90 (by kernel_rfl) (by kernel_rfl)
        refine .inl ⟨wanted_free rfl, fun K hK => ?_⟩
        clear hs hb hx
        go_simp
        exact hK _ _ rfl (Ext.refl _)
      · intro fa fw hx hs hb
        obtain ⟨_, s91, rfl⟩ := hs 2 91 (by kernel_rfl) (by kernel_rfl)
        have c0 := hx.keeps _ _ E1.out
        refine .inl ⟨wanted_free rfl, fun K hK => ?_⟩
        clear hs hb hx
        go_simp
        exact hK _ _ rfl (Ext.refl _)
      · intro fa fw hx hs hb
        have s15 : fa.tmps[(15 : Nat)]? = some (S (65 :: r)) := (hb 15 (by kernel_rfl)).trans (by rfl)
        refine .inl ⟨wanted_free rfl, fun K hK => ?_⟩
        clear hs hb hx
        go_simp
        exact hK _ _ rfl (Ext.refl _)
      · intro fa fw hx hs hb
        obtain ⟨_, s93, rfl⟩ := hs 4 93 (by kernel_rfl) (by kernel_rfl)
        refine .inl ⟨wanted_free rfl, fun K hK => ?_⟩
        clear hs hb
        go_simp
        exact hK _ _ rfl (Ext.refl _)
      · intro fa fw hx hs hb
        have s13 : fa.tmps[(13 : Nat)]? = some (.slice (some ⟨w.heap.size + 1 + 1 + 1, 0, none⟩) 4 4) := (hb 13 (by kernel_rfl)).trans (by rfl)
        refine .inl ⟨wanted_free rfl, fun K hK => ?_⟩
        clear hs hb hx
        go_simp
        exact hK _ _ rfl (Ext.refl _)
      · intro fa fw hx hs hb
        have s14 : fa.tmps[(14 : Nat)]? = some (.int .i64 3) := (hb 14 (by kernel_rfl)).trans (by rfl)
        refine .inl ⟨wanted_free rfl, fun K hK => ?_⟩
        clear hs hb hx
        go_simp
        exact hK _ _ rfl (Ext.refl _)
      · intro fa fw hx hs hb
        obtain ⟨_, s95, rfl⟩ := hs 6 95 (by kernel_rfl) (by kernel_rfl)
        obtain ⟨_, s96, rfl⟩ := hs 7 96 (by kernel_rfl) (by kernel_rfl)
        refine .inl ⟨wanted_free rfl, fun K hK => ?_⟩
        clear hs hb hx
        go_simp
        exact hK _ _ rfl (Ext.refl _)
      · intro fa fw hx hs hb
        obtain ⟨_, s97, rfl⟩ := hs 8 97 (by kernel_rfl) (by kernel_rfl)
        have c0 := hx.keeps _ _ F1.out
        refine .inl ⟨wanted_free rfl, fun K hK => ?_⟩
        clear hs hb hx
        go_simp
        exact hK _ _ rfl (Ext.refl _)
      · intro fa fw hx hs hb
        obtain ⟨_, s94, rfl⟩ := hs 5 94 (by kernel_rfl) (by kernel_rfl)
        obtain ⟨_, s98, rfl⟩ := hs 9 98 (by kernel_rfl) (by kernel_rfl)
        refine .inl ⟨wanted_free rfl, fun K hK => ?_⟩
        clear hs hb
        go_simp
        exact hK _ _ rfl (Ext.refl _)
      · intro fa fw hx hs hb
        obtain ⟨_, s99, rfl⟩ := hs 10 99 (by kernel_rfl) (by kernel_rfl)
        refine .inl ⟨wanted_free rfl, fun K hK => ?_⟩
        clear hs hb
        go_simp
        exact hK _ _ rfl (Ext.refl _)
      · intro fa fw hx hs hb
        obtain ⟨_, s92, rfl⟩ := hs 3 92 (by kernel_rfl) (by kernel_rfl)
        obtain ⟨_, s100, rfl⟩ := hs 11 100 (by kernel_rfl) (by kernel_rfl)
        refine .inl ⟨wanted_free rfl, fun K hK => ?_⟩
        clear hs hb
        go_simp
        exact hK _ _ rfl (Ext.refl _)
      · intro fa fw hx hs hb
        refine .inl ⟨wanted_free rfl, fun K hK => ?_⟩
        clear hs hb
        go_simp
        exact hK _ _ ⟨_, rfl, hx.size, by rw [World.cell?_alloc_new]; rfl, by rw [World.cell?_alloc_new]; rfl, World.frozen?_alloc_at _ _ _ _ rfl, World.frozen?_alloc_at _ _ _ _ rfl⟩ ((Ext.refl _).alloc _)
    case rest =>
      intro w3 hxw3
      rintro _ rfl
      rintro _ rfl
      rintro _ rfl
      rintro _ rfl
      rintro _ rfl
      rintro _ rfl
      rintro _ rfl
      rintro _ rfl
      rintro _ rfl
      rintro _ rfl
      rintro _ rfl
      rintro _ rfl
      rintro _ rfl
      rintro _ ⟨b17, rfl, q17⟩
      simp only [putAll, List.take, Act.put, List.setIfInBounds_toArray, List.set_cons_zero, List.set_cons_succ]
      obtain ⟨qb0, qb1, qb2, qb3, qb4⟩ := q17
      refine wpAny_ready (rs := [14]) (by kernel_rfl) (by simp) (AllReady.cons rfl (fun KK hKK => ?_) AllReady.nil)
      go_simp
      refine hKK _ _ ?_
      clear hKK KK
      refine wpAny_done (by kernel_rfl) ?_ _
      have k0 : ((w3.setCell ⟨b17, 0, none⟩ (.int .i64 8)).setCell ⟨b17, 1, none⟩ (.int .i64 0)).cell? ⟨b17, 0, none⟩ = some (.int .i64 8) := (World.cell?_setCell_other _ _ _ _ (by simp)).trans (World.cell?_setCell_same _ _ _ qb1)
      have k1 : ((w3.setCell ⟨b17, 0, none⟩ (.int .i64 8)).setCell ⟨b17, 1, none⟩ (.int .i64 0)).cell? ⟨b17, 1, none⟩ = some (.int .i64 0) := World.cell?_setCell_same _ _ _ ((World.cell?_setCell_other _ _ _ _ (by simp)).trans qb2)
      have x4 : Ext w ((w3.setCell ⟨b17, 0, none⟩ (.int .i64 8)).setCell ⟨b17, 1, none⟩ (.int .i64 0)) := (((xf.trans hxw2).trans hxw3).setCell (by show w.heap.size ≤ b17; have := (xf.trans hxw2).size; omega) _).setCell (by show w.heap.size ≤ b17; have := (xf.trans hxw2).size; omega) _
      generalize (w3.setCell ⟨b17, 0, none⟩ (.int .i64 8)).setCell ⟨b17, 1, none⟩ (.int .i64 0) = w4 at *
      clear qb1 qb2 qb3 qb4
      have hrl : r.length ≤ 5000 := by have := rest_len wWas s; rw [HQ'.out] at this; simp at this; omega
      go_wp2_with fail
      rw [ba_tail1]
      refine (twoR_any hN w4 ⟨8, 0⟩ r wThen wElse wEnd l hrl (by decide) (by decide) (by decide) hl hn).mono ?_
      rintro e w5 h5
      rw [HT'.out] at h5
      rcases T with _ | q
      · obtain ⟨u, v, rfl, x5⟩ := h5
        go_wp2
        exact bodyPost_ret (v := Pr3 u v (.bool false)) (by simp [results, Tryz.results42, go_sem]) rfl ⟨_, _, rfl, x4.trans x5⟩
      · obtain ⟨A, c, rfl, y1, y2, y3, y4, y5, x5⟩ := h5
        go_wp2
        exact bodyPost_ret (v := Pr3 (.slice A q.1.size c) (S q.2) (.bool true)) (by simp [results, Tryz.results42, go_sem]) rfl ⟨A, c, rfl, y1, y2, y3, y4, y5, x4.trans x5⟩
set_option maxHeartbeats 400000 in
theorem from_w6_1 (w : World) (s : List UInt8) (l : Nat) (hs : s.length ≤ 5000) (hl : l ≤ 13) (hi0 : isP wNothing s = false) (hi1 : isP wPause s = false) (hi2 : isP wHalt s = false) (hi3 : isP wEmit s = false) (hi4 : isP wAwait s = false) (hi5 : isP wIf s = false) (hi6 : isP wWas s = true) {r : List UInt8} (hq : restP wWas s = 66 :: r) {n : Nat} (hN : FromOK n) (hn : l < n) {T : Option (Tr × List UInt8)} (ht : rtwoT (rreadT n) l ⟨8, 1⟩ wThen wElse wEnd r = T) :
    Calls Tryz.prog 42 #[S s, I ((l : Int) + 1)] w (FromPost w (l + 1) T) := by
  have HI0 := Lib.hid hi0; clear hi0
  have HI1 := Lib.hid hi1; clear hi1
  have HI2 := Lib.hid hi2; clear hi2
  have HI3 := Lib.hid hi3; clear hi3
  have HI4 := Lib.hid hi4; clear hi4
  have HI5 := Lib.hid hi5; clear hi5
  have HI6 := Lib.hid hi6; clear hi6
  have HQ' := Lib.hid hq; clear hq
  have HT' := Lib.hid ht; clear ht
  go_enter Tryz.func42, Tryz.ntmps42
  go_wp2_with fail
  refine wp_loop_rounds 4 ?_
  rw [rounds_succ]
  go_wp2_with fail
  refine (after_any s wNothing (by omega) (by decide) _).mono ?_; rintro e w' ⟨rfl, rfl⟩; rw [HI0.out]
  go_wp2_with fail
  rw [rounds_succ]
  go_wp2_with fail
  refine (after_any s wPause (by omega) (by decide) _).mono ?_; rintro e w' ⟨rfl, rfl⟩; rw [HI1.out]
  go_wp2_with fail
  rw [rounds_succ]
  go_wp2_with fail
  refine (after_any s wHalt (by omega) (by decide) _).mono ?_; rintro e w' ⟨rfl, rfl⟩; rw [HI2.out]
  go_wp2_with fail
  rw [rounds_succ]
  go_wp2_with fail
  rw [rfW_eq]
  have d0 := rfW_word w 0 _ rfl
  have d1 := rfW_word w 1 _ rfl
  have d2 := rfW_word w 2 _ rfl
  have d3 := rfW_word w 3 _ rfl
  have e0 := rfW_kind w 3 _ rfl
  have f0 := rfW_first w 3 _ rfl
  have xf := rfW_ext w
  have hsz := rfW_size w
  generalize rfW w = wf at *
  refine wp_loop_rounds 5 ?_
  rw [rounds_succ]
  go_wp2_with fail
  refine (after_any s wEmit (by omega) (by decide) _).mono ?_; rintro e w' ⟨rfl, rfl⟩; rw [HI3.out]
  go_wp2_with fail
  rw [rounds_succ]
  go_wp2_with fail
  refine (after_any s wAwait (by omega) (by decide) _).mono ?_; rintro e w' ⟨rfl, rfl⟩; rw [HI4.out]
  go_wp2_with fail
  rw [rounds_succ]
  go_wp2_with fail
  refine (after_any s wIf (by omega) (by decide) _).mono ?_; rintro e w' ⟨rfl, rfl⟩; rw [HI5.out]
  go_wp2_with fail
  rw [rounds_succ]
  go_hideQ
  go_wp2_with fail
  refine (after_any s wWas (by omega) (by decide) _).mono ?_; rintro e w' ⟨rfl, rfl⟩; rw [HI6.out]
  rw [HQ'.out]
  go_wp2_with fail
  have F0 := Lib.hid f0
  refine wp_flow3 21 0 [isV (S (66 :: r)), isV (.bool false), isV (.bool false), isV (S (66 :: r)), isV (.int .u8 66), isV (.slice (some ⟨w.heap.size + 1 + 1 + 1, 0, none⟩) 4 4), isV (.int .i64 3), isV (.pointer (some ⟨w.heap.size + 1 + 1 + 1, 3, none⟩)), isV (.int .u8 65), isV (.bool false), isV (.bool false), isV (.bool false), isV (S (66 :: r)), isV (.int .u8 66), isV (.slice (some ⟨w.heap.size + 1 + 1 + 1, 0, none⟩) 4 4), isV (.int .i64 3), isV (.pointer (some ⟨w.heap.size + 1 + 1 + 1, 3, none⟩)), isV (.int .u8 65), isV (.int .u8 67), isV (.bool false), isV (.bool false)] (by kernel_rfl) rfl rfl (by kernel_rfl) (by kernel_rfl) ⟨isV_mono, isV_mono, isV_mono, isV_mono, isV_mono, isV_mono, isV_mono, isV_mono, isV_mono, isV_mono, isV_mono, isV_mono, isV_mono, isV_mono, isV_mono, isV_mono, isV_mono, isV_mono, isV_mono, isV_mono, isV_mono, trivial⟩ ?each ?rest
  case each =>
    refine .cons ?_ (.cons ?_ (.cons ?_ (.cons ?_ (.cons ?_ (.cons ?_ (.cons ?_ (.cons ?_ (.cons ?_ (.cons ?_ (.cons ?_ (.cons ?_ (.cons ?_ (.cons ?_ (.cons ?_ (.cons ?_ (.cons ?_ (.cons ?_ (.cons ?_ (.cons ?_ (.cons ?_ (.nil)))))))))))))))))))))
    · intro fa fw hx hs hb
      have s15 : fa.tmps[(15 : Nat)]? = some (S (66 :: r)) := (hb 15 (by kernel_rfl)).trans (by rfl)
      refine .inl ⟨wanted_free rfl, fun K hK => ?_⟩
      clear hs hb hx
      go_simp
      exact hK _ _ rfl (Ext.refl _)
    · intro fa fw hx hs hb
      obtain ⟨_, s67, rfl⟩ := hs 0 67 (by kernel_rfl) (by kernel_rfl)
      refine .inl ⟨wanted_free rfl, fun K hK => ?_⟩
      clear hs hb
      go_simp
      exact hK _ _ rfl (Ext.refl _)
    · intro fa fw hx hs hb
      obtain ⟨_, s68, rfl⟩ := hs 1 68 (by kernel_rfl) (by kernel_rfl)
      refine .inl ⟨wanted_free rfl, fun K hK => ?_⟩
      clear hs hb hx
      go_simp
      exact hK _ _ rfl (Ext.refl _)
    · intro fa fw hx hs hb
      obtain ⟨_, s69, rfl⟩ := hs 2 69 (by kernel_rfl) (by kernel_rfl)
      have s15 : fa.tmps[(15 : Nat)]? = some (S (66 :: r)) := (hb 15 (by kernel_rfl)).trans (by rfl)
      refine .inl ⟨wanted_yes 2 false 69 rfl (by kernel_rfl) s69, fun K hK => ?_⟩
      clear hs hb hx
      go_simp
      exact hK _ _ rfl (Ext.refl _)
    · intro fa fw hx hs hb
      obtain ⟨_, s69, rfl⟩ := hs 2 69 (by kernel_rfl) (by kernel_rfl)
      obtain ⟨_, s70, rfl⟩ := hs 3 70 (by kernel_rfl) (by kernel_rfl)
      refine .inl ⟨wanted_yes 2 false 69 rfl (by kernel_rfl) s69, fun K hK => ?_⟩
      clear hs hb
      go_simp
      exact hK _ _ rfl (Ext.refl _)
    · intro fa fw hx hs hb
      obtain ⟨_, s69, rfl⟩ := hs 2 69 (by kernel_rfl) (by kernel_rfl)
      have s13 : fa.tmps[(13 : Nat)]? = some (.slice (some ⟨w.heap.size + 1 + 1 + 1, 0, none⟩) 4 4) := (hb 13 (by kernel_rfl)).trans (by rfl)
      refine .inl ⟨wanted_yes 2 false 69 rfl (by kernel_rfl) s69, fun K hK => ?_⟩
      clear hs hb hx
      go_simp
      exact hK _ _ rfl (Ext.refl _)
    · intro fa fw hx hs hb
      obtain ⟨_, s69, rfl⟩ := hs 2 69 (by kernel_rfl) (by kernel_rfl)
      have s14 : fa.tmps[(14 : Nat)]? = some (.int .i64 3) := (hb 14 (by kernel_rfl)).trans (by rfl)
      refine .inl ⟨wanted_yes 2 false 69 rfl (by kernel_rfl) s69, fun K hK => ?_⟩
      clear hs hb hx
      go_simp
      exact hK _ _ rfl (Ext.refl _)
    · intro fa fw hx hs hb
      obtain ⟨_, s69, rfl⟩ := hs 2 69 (by kernel_rfl) (by kernel_rfl)
      obtain ⟨_, s72, rfl⟩ := hs 5 72 (by kernel_rfl) (by kernel_rfl)
      obtain ⟨_, s73, rfl⟩ := hs 6 73 (by kernel_rfl) (by kernel_rfl)
      refine .inl ⟨wanted_yes 2 false 69 rfl (by kernel_rfl) s69, fun K hK => ?_⟩
      clear hs hb hx
      go_simp
      exact hK _ _ rfl (Ext.refl _)
    · intro fa fw hx hs hb
      obtain ⟨_, s69, rfl⟩ := hs 2 69 (by kernel_rfl) (by kernel_rfl)
      obtain ⟨_, s74, rfl⟩ := hs 7 74 (by kernel_rfl) (by kernel_rfl)
      have c0 := hx.keeps _ _ F0.out
      refine .inl ⟨wanted_yes 2 false 69 rfl (by kernel_rfl) s69, fun K hK => ?_⟩
      clear hs hb hx
      go_simp
      exact hK _ _ rfl (Ext.refl _)
    · intro fa fw hx hs hb
      obtain ⟨_, s69, rfl⟩ := hs 2 69 (by kernel_rfl) (by kernel_rfl)
      obtain ⟨_, s71, rfl⟩ := hs 4 71 (by kernel_rfl) (by kernel_rfl)
      obtain ⟨_, s75, rfl⟩ := hs 8 75 (by kernel_rfl) (by kernel_rfl)
      refine .inl ⟨wanted_yes 2 false 69 rfl (by kernel_rfl) s69, fun K hK => ?_⟩
      clear hs hb
      go_simp
      exact hK _ _ rfl (Ext.refl _)
    · intro fa fw hx hs hb
      obtain ⟨_, s69, rfl⟩ := hs 2 69 (by kernel_rfl) (by kernel_rfl)
      obtain ⟨_, s76, rfl⟩ := hs 9 76 (by kernel_rfl) (by kernel_rfl)
      refine .inl ⟨wanted_free rfl, fun K hK => ?_⟩
      clear hs hb hx
      go_simp
      exact hK _ _ rfl (Ext.refl _)
    · intro fa fw hx hs hb
      obtain ⟨_, s77, rfl⟩ := hs 10 77 (by kernel_rfl) (by kernel_rfl)
      refine .inl ⟨wanted_free rfl, fun K hK => ?_⟩
      clear hs hb hx
      go_simp
      exact hK _ _ rfl (Ext.refl _)
    · intro fa fw hx hs hb
      obtain ⟨_, s78, rfl⟩ := hs 11 78 (by kernel_rfl) (by kernel_rfl)
      have s15 : fa.tmps[(15 : Nat)]? = some (S (66 :: r)) := (hb 15 (by kernel_rfl)).trans (by rfl)
      refine .inl ⟨wanted_yes 11 false 78 rfl (by kernel_rfl) s78, fun K hK => ?_⟩
      clear hs hb hx
      go_simp
      exact hK _ _ rfl (Ext.refl _)
    · intro fa fw hx hs hb
      obtain ⟨_, s78, rfl⟩ := hs 11 78 (by kernel_rfl) (by kernel_rfl)
      obtain ⟨_, s79, rfl⟩ := hs 12 79 (by kernel_rfl) (by kernel_rfl)
      refine .inl ⟨wanted_yes 11 false 78 rfl (by kernel_rfl) s78, fun K hK => ?_⟩
      clear hs hb
      go_simp
      exact hK _ _ rfl (Ext.refl _)
    · intro fa fw hx hs hb
      obtain ⟨_, s78, rfl⟩ := hs 11 78 (by kernel_rfl) (by kernel_rfl)
      have s13 : fa.tmps[(13 : Nat)]? = some (.slice (some ⟨w.heap.size + 1 + 1 + 1, 0, none⟩) 4 4) := (hb 13 (by kernel_rfl)).trans (by rfl)
      refine .inl ⟨wanted_yes 11 false 78 rfl (by kernel_rfl) s78, fun K hK => ?_⟩
      clear hs hb hx
      go_simp
      exact hK _ _ rfl (Ext.refl _)
    · intro fa fw hx hs hb
      obtain ⟨_, s78, rfl⟩ := hs 11 78 (by kernel_rfl) (by kernel_rfl)
      have s14 : fa.tmps[(14 : Nat)]? = some (.int .i64 3) := (hb 14 (by kernel_rfl)).trans (by rfl)
      refine .inl ⟨wanted_yes 11 false 78 rfl (by kernel_rfl) s78, fun K hK => ?_⟩
      clear hs hb hx
      go_simp
      exact hK _ _ rfl (Ext.refl _)
    · intro fa fw hx hs hb
      obtain ⟨_, s78, rfl⟩ := hs 11 78 (by kernel_rfl) (by kernel_rfl)
      obtain ⟨_, s81, rfl⟩ := hs 14 81 (by kernel_rfl) (by kernel_rfl)
      obtain ⟨_, s82, rfl⟩ := hs 15 82 (by kernel_rfl) (by kernel_rfl)
      refine .inl ⟨wanted_yes 11 false 78 rfl (by kernel_rfl) s78, fun K hK => ?_⟩
      clear hs hb hx
      go_simp
      exact hK _ _ rfl (Ext.refl _)
    · intro fa fw hx hs hb
      obtain ⟨_, s78, rfl⟩ := hs 11 78 (by kernel_rfl) (by kernel_rfl)
      obtain ⟨_, s83, rfl⟩ := hs 16 83 (by kernel_rfl) (by kernel_rfl)
      have c0 := hx.keeps _ _ F0.out
      refine .inl ⟨wanted_yes 11 false 78 rfl (by kernel_rfl) s78, fun K hK => ?_⟩
      clear hs hb hx
      go_simp
      exact hK _ _ rfl (Ext.refl _)
    · intro fa fw hx hs hb
      obtain ⟨_, s78, rfl⟩ := hs 11 78 (by kernel_rfl) (by kernel_rfl)
      obtain ⟨_, s84, rfl⟩ := hs 17 84 (by kernel_rfl) (by kernel_rfl)
      refine .inl ⟨wanted_yes 11 false 78 rfl (by kernel_rfl) s78, fun K hK => ?_⟩
      clear hs hb
      go_simp
      exact hK _ _ rfl (Ext.refl _)
    · intro fa fw hx hs hb
      obtain ⟨_, s78, rfl⟩ := hs 11 78 (by kernel_rfl) (by kernel_rfl)
      obtain ⟨_, s80, rfl⟩ := hs 13 80 (by kernel_rfl) (by kernel_rfl)
      obtain ⟨_, s85, rfl⟩ := hs 18 85 (by kernel_rfl) (by kernel_rfl)
      refine .inl ⟨wanted_yes 11 false 78 rfl (by kernel_rfl) s78, fun K hK => ?_⟩
      clear hs hb
      go_simp
      exact hK _ _ rfl (Ext.refl _)
    · intro fa fw hx hs hb
      obtain ⟨_, s78, rfl⟩ := hs 11 78 (by kernel_rfl) (by kernel_rfl)
      obtain ⟨_, s86, rfl⟩ := hs 19 86 (by kernel_rfl) (by kernel_rfl)
      refine .inl ⟨wanted_free rfl, fun K hK => ?_⟩
      clear hs hb hx
      go_simp
      exact hK _ _ rfl (Ext.refl _)
  case rest =>
    intro w2 hxw2
    rintro _ rfl
    rintro _ rfl
    rintro _ rfl
    rintro _ rfl
    rintro _ rfl
    rintro _ rfl
    rintro _ rfl
    rintro _ rfl
    rintro _ rfl
    rintro _ rfl
    rintro _ rfl
    rintro _ rfl
    rintro _ rfl
    rintro _ rfl
    rintro _ rfl
    rintro _ rfl
    rintro _ rfl
    rintro _ rfl
    rintro _ rfl
    rintro _ rfl
    rintro _ rfl
    simp only [putAll, List.take, Act.put, List.setIfInBounds_toArray, List.set_cons_zero, List.set_cons_succ]
    refine wpAny_done (by kernel_rfl) ?_ _
    go_wp2_with fail
    have F1 := Lib.hid (hxw2.keeps _ _ F0.out); have E1 := Lib.hid (hxw2.keeps _ _ e0)
    refine wp_flow3 14 1 [isV (.slice (some ⟨w.heap.size + 1 + 1, 0, none⟩) 4 4), isV (.int .i64 3), isV (.pointer (some ⟨w.heap.size + 1 + 1, 3, none⟩)), isV (.int .i64 8), isV (S (66 :: r)), isV (.int .u8 66), isV (.slice (some ⟨w.heap.size + 1 + 1 + 1, 0, none⟩) 4 4), isV (.int .i64 3), isV (.pointer (some ⟨w.heap.size + 1 + 1 + 1, 3, none⟩)), isV (.int .u8 65), isV (.int .u8 1), isV (.int .i64 1), isV (.agg #[.int .i64 8, .int .i64 1]), fun v w => ∃ b, v = .pointer (some ⟨b, 0, none⟩) ∧ w2.heap.size ≤ b ∧ w.cell? ⟨b, 0, none⟩ = some (I 0) ∧ w.cell? ⟨b, 1, none⟩ = some (I 0) ∧ w.frozen? ⟨b, 0, none⟩ = false ∧ w.frozen? ⟨b, 1, none⟩ = false] (by kernel_rfl) rfl rfl (by kernel_rfl) (by kernel_rfl) ⟨isV_mono, isV_mono, isV_mono, isV_mono, isV_mono, isV_mono, isV_mono, isV_mono, isV_mono, isV_mono, isV_mono, isV_mono, isV_mono, fun v w w' ⟨b, e, h0, h1, h2, h3, h4⟩ hx => ⟨b, e, h0, hx.keeps _ _ h1, hx.keeps _ _ h2, (Below.frozen (p := ⟨b, 0, none⟩) hx (lt_of_cell h1)).trans h3, (Below.frozen (p := ⟨b, 1, none⟩) hx (lt_of_cell h2)).trans h4⟩, trivial⟩ ?each ?rest
    case each =>
      refine .cons ?_ (.cons ?_ (.cons ?_ (.cons ?_ (.cons ?_ (.cons ?_ (.cons ?_ (.cons ?_ (.cons ?_ (.cons ?_ (.cons ?_ (.cons ?_ (.cons ?_ (.cons ?_ (.nil))))))))))))))
      · intro fa fw hx hs hb
        have s12 : fa.tmps[(12 : Nat)]? = some (.slice (some ⟨w.heap.size + 1 + 1, 0, none⟩) 4 4) := (hb 12 (by kernel_rfl)).trans (by rfl)
        refine .inl ⟨wanted_free rfl, fun K hK => ?_⟩
        clear hs hb hx
        go_simp
        exact hK _ _ rfl (Ext.refl _)
      · intro fa fw hx hs hb
        have s14 : fa.tmps[(14 : Nat)]? = some (.int .i64 3) := (hb 14 (by kernel_rfl)).trans (by rfl)
        refine .inl ⟨wanted_free rfl, fun K hK => ?_⟩
        clear hs hb hx
        go_simp
        exact hK _ _ rfl (Ext.refl _)
      · intro fa fw hx hs hb
        obtain ⟨_, s89, rfl⟩ := hs 0 89 (by kernel_rfl) (by kernel_rfl)
        obtain ⟨_, s90, rfl⟩ := hs 1 90 (by kernel_rfl) (by kernel_rfl)
        refine .inl ⟨wanted_free rfl, fun K hK => ?_⟩
        clear hs hb hx
        go_simp
        exact hK _ _ rfl (Ext.refl _)
      · intro fa fw hx hs hb
        obtain ⟨_, s91, rfl⟩ := hs 2 91 (by kernel_rfl) (by kernel_rfl)
        have c0 := hx.keeps _ _ E1.out
        refine .inl ⟨wanted_free rfl, fun K hK => ?_⟩
        clear hs hb hx
        go_simp
        exact hK _ _ rfl (Ext.refl _)
      · intro fa fw hx hs hb
        have s15 : fa.tmps[(15 : Nat)]? = some (S (66 :: r)) := (hb 15 (by kernel_rfl)).trans (by rfl)
        refine .inl ⟨wanted_free rfl, fun K hK => ?_⟩
        clear hs hb hx
        go_simp
        exact hK _ _ rfl (Ext.refl _)
      · intro fa fw hx hs hb
        obtain ⟨_, s93, rfl⟩ := hs 4 93 (by kernel_rfl) (by kernel_rfl)
        refine .inl ⟨wanted_free rfl, fun K hK => ?_⟩
        clear hs hb
        go_simp
        exact hK _ _ rfl (Ext.refl _)
      · intro fa fw hx hs hb
        have s13 : fa.tmps[(13 : Nat)]? = some (.slice (some ⟨w.heap.size + 1 + 1 + 1, 0, none⟩) 4 4) := (hb 13 (by kernel_rfl)).trans (by rfl)
        refine .inl ⟨wanted_free rfl, fun K hK => ?_⟩
        clear hs hb hx
        go_simp
        exact hK _ _ rfl (Ext.refl _)
      · intro fa fw hx hs hb
        have s14 : fa.tmps[(14 : Nat)]? = some (.int .i64 3) := (hb 14 (by kernel_rfl)).trans (by rfl)
        refine .inl ⟨wanted_free rfl, fun K hK => ?_⟩
        clear hs hb hx
        go_simp
        exact hK _ _ rfl (Ext.refl _)
      · intro fa fw hx hs hb
        obtain ⟨_, s95, rfl⟩ := hs 6 95 (by kernel_rfl) (by kernel_rfl)
        obtain ⟨_, s96, rfl⟩ := hs 7 96 (by kernel_rfl) (by kernel_rfl)
        refine .inl ⟨wanted_free rfl, fun K hK => ?_⟩
        clear hs hb hx
        go_simp
        exact hK _ _ rfl (Ext.refl _)
      · intro fa fw hx hs hb
        obtain ⟨_, s97, rfl⟩ := hs 8 97 (by kernel_rfl) (by kernel_rfl)
        have c0 := hx.keeps _ _ F1.out
        refine .inl ⟨wanted_free rfl, fun K hK => ?_⟩
        clear hs hb hx
        go_simp
        exact hK _ _ rfl (Ext.refl _)
      · intro fa fw hx hs hb
        obtain ⟨_, s94, rfl⟩ := hs 5 94 (by kernel_rfl) (by kernel_rfl)
        obtain ⟨_, s98, rfl⟩ := hs 9 98 (by kernel_rfl) (by kernel_rfl)
        refine .inl ⟨wanted_free rfl, fun K hK => ?_⟩
        clear hs hb
        go_simp
        exact hK _ _ rfl (Ext.refl _)
      · intro fa fw hx hs hb
        obtain ⟨_, s99, rfl⟩ := hs 10 99 (by kernel_rfl) (by kernel_rfl)
        refine .inl ⟨wanted_free rfl, fun K hK => ?_⟩
        clear hs hb
        go_simp
        exact hK _ _ rfl (Ext.refl _)
      · intro fa fw hx hs hb
        obtain ⟨_, s92, rfl⟩ := hs 3 92 (by kernel_rfl) (by kernel_rfl)
        obtain ⟨_, s100, rfl⟩ := hs 11 100 (by kernel_rfl) (by kernel_rfl)
        refine .inl ⟨wanted_free rfl, fun K hK => ?_⟩
        clear hs hb
        go_simp
        exact hK _ _ rfl (Ext.refl _)
      · intro fa fw hx hs hb
        refine .inl ⟨wanted_free rfl, fun K hK => ?_⟩
        clear hs hb
        go_simp
        exact hK _ _ ⟨_, rfl, hx.size, by rw [World.cell?_alloc_new]; rfl, by rw [World.cell?_alloc_new]; rfl, World.frozen?_alloc_at _ _ _ _ rfl, World.frozen?_alloc_at _ _ _ _ rfl⟩ ((Ext.refl _).alloc _)
    case rest =>
      intro w3 hxw3
      rintro _ rfl
      rintro _ rfl
      rintro _ rfl
      rintro _ rfl
      rintro _ rfl
      rintro _ rfl
      rintro _ rfl
      rintro _ rfl
      rintro _ rfl
      rintro _ rfl
      rintro _ rfl
      rintro _ rfl
      rintro _ rfl
      rintro _ ⟨b17, rfl, q17⟩
      simp only [putAll, List.take, Act.put, List.setIfInBounds_toArray, List.set_cons_zero, List.set_cons_succ]
      obtain ⟨qb0, qb1, qb2, qb3, qb4⟩ := q17
      refine wpAny_ready (rs := [14]) (by kernel_rfl) (by simp) (AllReady.cons rfl (fun KK hKK => ?_) AllReady.nil)
      go_simp
      refine hKK _ _ ?_
      clear hKK KK
      refine wpAny_done (by kernel_rfl) ?_ _
      have k0 : ((w3.setCell ⟨b17, 0, none⟩ (.int .i64 8)).setCell ⟨b17, 1, none⟩ (.int .i64 1)).cell? ⟨b17, 0, none⟩ = some (.int .i64 8) := (World.cell?_setCell_other _ _ _ _ (by simp)).trans (World.cell?_setCell_same _ _ _ qb1)
      have k1 : ((w3.setCell ⟨b17, 0, none⟩ (.int .i64 8)).setCell ⟨b17, 1, none⟩ (.int .i64 1)).cell? ⟨b17, 1, none⟩ = some (.int .i64 1) := World.cell?_setCell_same _ _ _ ((World.cell?_setCell_other _ _ _ _ (by simp)).trans qb2)
      have x4 : Ext w ((w3.setCell ⟨b17, 0, none⟩ (.int .i64 8)).setCell ⟨b17, 1, none⟩ (.int .i64 1)) := (((xf.trans hxw2).trans hxw3).setCell (by show w.heap.size ≤ b17; have := (xf.trans hxw2).size; omega) _).setCell (by show w.heap.size ≤ b17; have := (xf.trans hxw2).size; omega) _
      generalize (w3.setCell ⟨b17, 0, none⟩ (.int .i64 8)).setCell ⟨b17, 1, none⟩ (.int .i64 1) = w4 at *
      clear qb1 qb2 qb3 qb4
      have hrl : r.length ≤ 5000 := by have := rest_len wWas s; rw [HQ'.out] at this; simp at this; omega
      go_wp2_with fail
      rw [ba_tail1]
      refine (twoR_any hN w4 ⟨8, 1⟩ r wThen wElse wEnd l hrl (by decide) (by decide) (by decide) hl hn).mono ?_
      rintro e w5 h5
      rw [HT'.out] at h5
      rcases T with _ | q
      · obtain ⟨u, v, rfl, x5⟩ := h5
        go_wp2
        exact bodyPost_ret (v := Pr3 u v (.bool false)) (by simp [results, Tryz.results42, go_sem]) rfl ⟨_, _, rfl, x4.trans x5⟩
      · obtain ⟨A, c, rfl, y1, y2, y3, y4, y5, x5⟩ := h5
        go_wp2
        exact bodyPost_ret (v := Pr3 (.slice A q.1.size c) (S q.2) (.bool true)) (by simp [results, Tryz.results42, go_sem]) rfl ⟨A, c, rfl, y1, y2, y3, y4, y5, x4.trans x5⟩
set_option maxHeartbeats 400000 in
theorem from_w6_2 (w : World) (s : List UInt8) (l : Nat) (hs : s.length ≤ 5000) (hl : l ≤ 13) (hi0 : isP wNothing s = false) (hi1 : isP wPause s = false) (hi2 : isP wHalt s = false) (hi3 : isP wEmit s = false) (hi4 : isP wAwait s = false) (hi5 : isP wIf s = false) (hi6 : isP wWas s = true) {r : List UInt8} (hq : restP wWas s = 67 :: r) {n : Nat} (hN : FromOK n) (hn : l < n) {T : Option (Tr × List UInt8)} (ht : rtwoT (rreadT n) l ⟨8, 2⟩ wThen wElse wEnd r = T) :
    Calls Tryz.prog 42 #[S s, I ((l : Int) + 1)] w (FromPost w (l + 1) T) := by
  have HI0 := Lib.hid hi0; clear hi0
  have HI1 := Lib.hid hi1; clear hi1
  have HI2 := Lib.hid hi2; clear hi2
  have HI3 := Lib.hid hi3; clear hi3
  have HI4 := Lib.hid hi4; clear hi4
  have HI5 := Lib.hid hi5; clear hi5
  have HI6 := Lib.hid hi6; clear hi6
  have HQ' := Lib.hid hq; clear hq
  have HT' := Lib.hid ht; clear ht
  go_enter Tryz.func42, Tryz.ntmps42
  go_wp2_with fail
  refine wp_loop_rounds 4 ?_
  rw [rounds_succ]
  go_wp2_with fail
  refine (after_any s wNothing (by omega) (by decide) _).mono ?_; rintro e w' ⟨rfl, rfl⟩; rw [HI0.out]
  go_wp2_with fail
  rw [rounds_succ]
  go_wp2_with fail
  refine (after_any s wPause (by omega) (by decide) _).mono ?_; rintro e w' ⟨rfl, rfl⟩; rw [HI1.out]
  go_wp2_with fail
  rw [rounds_succ]
  go_wp2_with fail
  refine (after_any s wHalt (by omega) (by decide) _).mono ?_; rintro e w' ⟨rfl, rfl⟩; rw [HI2.out]
  go_wp2_with fail
  rw [rounds_succ]
  go_wp2_with fail
  rw [rfW_eq]
  have d0 := rfW_word w 0 _ rfl
  have d1 := rfW_word w 1 _ rfl
  have d2 := rfW_word w 2 _ rfl
  have d3 := rfW_word w 3 _ rfl
  have e0 := rfW_kind w 3 _ rfl
  have f0 := rfW_first w 3 _ rfl
  have xf := rfW_ext w
  have hsz := rfW_size w
  generalize rfW w = wf at *
  refine wp_loop_rounds 5 ?_
  rw [rounds_succ]
  go_wp2_with fail
  refine (after_any s wEmit (by omega) (by decide) _).mono ?_; rintro e w' ⟨rfl, rfl⟩; rw [HI3.out]
  go_wp2_with fail
  rw [rounds_succ]
  go_wp2_with fail
  refine (after_any s wAwait (by omega) (by decide) _).mono ?_; rintro e w' ⟨rfl, rfl⟩; rw [HI4.out]
  go_wp2_with fail
  rw [rounds_succ]
  go_wp2_with fail
  refine (after_any s wIf (by omega) (by decide) _).mono ?_; rintro e w' ⟨rfl, rfl⟩; rw [HI5.out]
  go_wp2_with fail
  rw [rounds_succ]
  go_hideQ
  go_wp2_with fail
  refine (after_any s wWas (by omega) (by decide) _).mono ?_; rintro e w' ⟨rfl, rfl⟩; rw [HI6.out]
  rw [HQ'.out]
  go_wp2_with fail
  have F0 := Lib.hid f0
  refine wp_flow3 21 0 [isV (S (67 :: r)), isV (.bool false), isV (.bool false), isV (S (67 :: r)), isV (.int .u8 67), isV (.slice (some ⟨w.heap.size + 1 + 1 + 1, 0, none⟩) 4 4), isV (.int .i64 3), isV (.pointer (some ⟨w.heap.size + 1 + 1 + 1, 3, none⟩)), isV (.int .u8 65), isV (.bool false), isV (.bool false), isV (.bool false), isV (S (67 :: r)), isV (.int .u8 67), isV (.slice (some ⟨w.heap.size + 1 + 1 + 1, 0, none⟩) 4 4), isV (.int .i64 3), isV (.pointer (some ⟨w.heap.size + 1 + 1 + 1, 3, none⟩)), isV (.int .u8 65), isV (.int .u8 67), isV (.bool false), isV (.bool false)] (by kernel_rfl) rfl rfl (by kernel_rfl) (by kernel_rfl) ⟨isV_mono, isV_mono, isV_mono, isV_mono, isV_mono, isV_mono, isV_mono, isV_mono, isV_mono, isV_mono, isV_mono, isV_mono, isV_mono, isV_mono, isV_mono, isV_mono, isV_mono, isV_mono, isV_mono, isV_mono, isV_mono, trivial⟩ ?each ?rest
  case each =>
    refine .cons ?_ (.cons ?_ (.cons ?_ (.cons ?_ (.cons ?_ (.cons ?_ (.cons ?_ (.cons ?_ (.cons ?_ (.cons ?_ (.cons ?_ (.cons ?_ (.cons ?_ (.cons ?_ (.cons ?_ (.cons ?_ (.cons ?_ (.cons ?_ (.cons ?_ (.cons ?_ (.cons ?_ (.nil)))))))))))))))))))))
    · intro fa fw hx hs hb
      have s15 : fa.tmps[(15 : Nat)]? = some (S (67 :: r)) := (hb 15 (by kernel_rfl)).trans (by rfl)
      refine .inl ⟨wanted_free rfl, fun K hK => ?_⟩
      clear hs hb hx
      go_simp
      exact hK _ _ rfl (Ext.refl _)
    · intro fa fw hx hs hb
      obtain ⟨_, s67, rfl⟩ := hs 0 67 (by kernel_rfl) (by kernel_rfl)
      refine .inl ⟨wanted_free rfl, fun K hK => ?_⟩
      clear hs hb
      go_simp
      exact hK _ _ rfl (Ext.refl _)
    · intro fa fw hx hs hb
      obtain ⟨_, s68, rfl⟩ := hs 1 68 (by kernel_rfl) (by kernel_rfl)
      refine .inl ⟨wanted_free rfl, fun K hK => ?_⟩
      clear hs hb hx
      go_simp
      exact hK _ _ rfl (Ext.refl _)
    · intro fa fw hx hs hb
      obtain ⟨_, s69, rfl⟩ := hs 2 69 (by kernel_rfl) (by kernel_rfl)
      have s15 : fa.tmps[(15 : Nat)]? = some (S (67 :: r)) := (hb 15 (by kernel_rfl)).trans (by rfl)
      refine .inl ⟨wanted_yes 2 false 69 rfl (by kernel_rfl) s69, fun K hK => ?_⟩
      clear hs hb hx
      go_simp
      exact hK _ _ rfl (Ext.refl _)
    · intro fa fw hx hs hb
      obtain ⟨_, s69, rfl⟩ := hs 2 69 (by kernel_rfl) (by kernel_rfl)
      obtain ⟨_, s70, rfl⟩ := hs 3 70 (by kernel_rfl) (by kernel_rfl)
      refine .inl ⟨wanted_yes 2 false 69 rfl (by kernel_rfl) s69, fun K hK => ?_⟩
      clear hs hb
      go_simp
      exact hK _ _ rfl (Ext.refl _)
    · intro fa fw hx hs hb
      obtain ⟨_, s69, rfl⟩ := hs 2 69 (by kernel_rfl) (by kernel_rfl)
      have s13 : fa.tmps[(13 : Nat)]? = some (.slice (some ⟨w.heap.size + 1 + 1 + 1, 0, none⟩) 4 4) := (hb 13 (by kernel_rfl)).trans (by rfl)
      refine .inl ⟨wanted_yes 2 false 69 rfl (by kernel_rfl) s69, fun K hK => ?_⟩
      clear hs hb hx
      go_simp
      exact hK _ _ rfl (Ext.refl _)
    · intro fa fw hx hs hb
      obtain ⟨_, s69, rfl⟩ := hs 2 69 (by kernel_rfl) (by kernel_rfl)
      have s14 : fa.tmps[(14 : Nat)]? = some (.int .i64 3) := (hb 14 (by kernel_rfl)).trans (by rfl)
      refine .inl ⟨wanted_yes 2 false 69 rfl (by kernel_rfl) s69, fun K hK => ?_⟩
      clear hs hb hx
      go_simp
      exact hK _ _ rfl (Ext.refl _)
    · intro fa fw hx hs hb
      obtain ⟨_, s69, rfl⟩ := hs 2 69 (by kernel_rfl) (by kernel_rfl)
      obtain ⟨_, s72, rfl⟩ := hs 5 72 (by kernel_rfl) (by kernel_rfl)
      obtain ⟨_, s73, rfl⟩ := hs 6 73 (by kernel_rfl) (by kernel_rfl)
      refine .inl ⟨wanted_yes 2 false 69 rfl (by kernel_rfl) s69, fun K hK => ?_⟩
      clear hs hb hx
      go_simp
      exact hK _ _ rfl (Ext.refl _)
    · intro fa fw hx hs hb
      obtain ⟨_, s69, rfl⟩ := hs 2 69 (by kernel_rfl) (by kernel_rfl)
      obtain ⟨_, s74, rfl⟩ := hs 7 74 (by kernel_rfl) (by kernel_rfl)
      have c0 := hx.keeps _ _ F0.out
      refine .inl ⟨wanted_yes 2 false 69 rfl (by kernel_rfl) s69, fun K hK => ?_⟩
      clear hs hb hx
      go_simp
      exact hK _ _ rfl (Ext.refl _)
    · intro fa fw hx hs hb
      obtain ⟨_, s69, rfl⟩ := hs 2 69 (by kernel_rfl) (by kernel_rfl)
      obtain ⟨_, s71, rfl⟩ := hs 4 71 (by kernel_rfl) (by kernel_rfl)
      obtain ⟨_, s75, rfl⟩ := hs 8 75 (by kernel_rfl) (by kernel_rfl)
      refine .inl ⟨wanted_yes 2 false 69 rfl (by kernel_rfl) s69, fun K hK => ?_⟩
      clear hs hb
      go_simp
      exact hK _ _ rfl (Ext.refl _)
    · intro fa fw hx hs hb
      obtain ⟨_, s69, rfl⟩ := hs 2 69 (by kernel_rfl) (by kernel_rfl)
      obtain ⟨_, s76, rfl⟩ := hs 9 76 (by kernel_rfl) (by kernel_rfl)
      refine .inl ⟨wanted_free rfl, fun K hK => ?_⟩
      clear hs hb hx
      go_simp
      exact hK _ _ rfl (Ext.refl _)
    · intro fa fw hx hs hb
      obtain ⟨_, s77, rfl⟩ := hs 10 77 (by kernel_rfl) (by kernel_rfl)
      refine .inl ⟨wanted_free rfl, fun K hK => ?_⟩
      clear hs hb hx
      go_simp
      exact hK _ _ rfl (Ext.refl _)
    · intro fa fw hx hs hb
      obtain ⟨_, s78, rfl⟩ := hs 11 78 (by kernel_rfl) (by kernel_rfl)
      have s15 : fa.tmps[(15 : Nat)]? = some (S (67 :: r)) := (hb 15 (by kernel_rfl)).trans (by rfl)
      refine .inl ⟨wanted_yes 11 false 78 rfl (by kernel_rfl) s78, fun K hK => ?_⟩
      clear hs hb hx
      go_simp
      exact hK _ _ rfl (Ext.refl _)
    · intro fa fw hx hs hb
      obtain ⟨_, s78, rfl⟩ := hs 11 78 (by kernel_rfl) (by kernel_rfl)
      obtain ⟨_, s79, rfl⟩ := hs 12 79 (by kernel_rfl) (by kernel_rfl)
      refine .inl ⟨wanted_yes 11 false 78 rfl (by kernel_rfl) s78, fun K hK => ?_⟩
      clear hs hb
      go_simp
      exact hK _ _ rfl (Ext.refl _)
    · intro fa fw hx hs hb
      obtain ⟨_, s78, rfl⟩ := hs 11 78 (by kernel_rfl) (by kernel_rfl)
      have s13 : fa.tmps[(13 : Nat)]? = some (.slice (some ⟨w.heap.size + 1 + 1 + 1, 0, none⟩) 4 4) := (hb 13 (by kernel_rfl)).trans (by rfl)
      refine .inl ⟨wanted_yes 11 false 78 rfl (by kernel_rfl) s78, fun K hK => ?_⟩
      clear hs hb hx
      go_simp
      exact hK _ _ rfl (Ext.refl _)
    · intro fa fw hx hs hb
      obtain ⟨_, s78, rfl⟩ := hs 11 78 (by kernel_rfl) (by kernel_rfl)
      have s14 : fa.tmps[(14 : Nat)]? = some (.int .i64 3) := (hb 14 (by kernel_rfl)).trans (by rfl)
      refine .inl ⟨wanted_yes 11 false 78 rfl (by kernel_rfl) s78, fun K hK => ?_⟩
      clear hs hb hx
      go_simp
      exact hK _ _ rfl (Ext.refl _)
    · intro fa fw hx hs hb
      obtain ⟨_, s78, rfl⟩ := hs 11 78 (by kernel_rfl) (by kernel_rfl)
      obtain ⟨_, s81, rfl⟩ := hs 14 81 (by kernel_rfl) (by kernel_rfl)
      obtain ⟨_, s82, rfl⟩ := hs 15 82 (by kernel_rfl) (by kernel_rfl)
      refine .inl ⟨wanted_yes 11 false 78 rfl (by kernel_rfl) s78, fun K hK => ?_⟩
      clear hs hb hx
      go_simp
      exact hK _ _ rfl (Ext.refl _)
    · intro fa fw hx hs hb
      obtain ⟨_, s78, rfl⟩ := hs 11 78 (by kernel_rfl) (by kernel_rfl)
      obtain ⟨_, s83, rfl⟩ := hs 16 83 (by kernel_rfl) (by kernel_rfl)
      have c0 := hx.keeps _ _ F0.out
      refine .inl ⟨wanted_yes 11 false 78 rfl (by kernel_rfl) s78, fun K hK => ?_⟩
      clear hs hb hx
      go_simp
      exact hK _ _ rfl (Ext.refl _)
    · intro fa fw hx hs hb
      obtain ⟨_, s78, rfl⟩ := hs 11 78 (by kernel_rfl) (by kernel_rfl)
      obtain ⟨_, s84, rfl⟩ := hs 17 84 (by kernel_rfl) (by kernel_rfl)
      refine .inl ⟨wanted_yes 11 false 78 rfl (by kernel_rfl) s78, fun K hK => ?_⟩
      clear hs hb
      go_simp
      exact hK _ _ rfl (Ext.refl _)
    · intro fa fw hx hs hb
      obtain ⟨_, s78, rfl⟩ := hs 11 78 (by kernel_rfl) (by kernel_rfl)
      obtain ⟨_, s80, rfl⟩ := hs 13 80 (by kernel_rfl) (by kernel_rfl)
      obtain ⟨_, s85, rfl⟩ := hs 18 85 (by kernel_rfl) (by kernel_rfl)
      refine .inl ⟨wanted_yes 11 false 78 rfl (by kernel_rfl) s78, fun K hK => ?_⟩
      clear hs hb
      go_simp
      exact hK _ _ rfl (Ext.refl _)
    · intro fa fw hx hs hb
      obtain ⟨_, s78, rfl⟩ := hs 11 78 (by kernel_rfl) (by kernel_rfl)
      obtain ⟨_, s86, rfl⟩ := hs 19 86 (by kernel_rfl) (by kernel_rfl)
      refine .inl ⟨wanted_free rfl, fun K hK => ?_⟩
      clear hs hb hx
      go_simp
      exact hK _ _ rfl (Ext.refl _)
  case rest =>
    intro w2 hxw2
    rintro _ rfl
    rintro _ rfl
    rintro _ rfl
    rintro _ rfl
    rintro _ rfl
    rintro _ rfl
    rintro _ rfl
    rintro _ rfl
    rintro _ rfl
    rintro _ rfl
    rintro _ rfl
    rintro _ rfl
    rintro _ rfl
    rintro _ rfl
    rintro _ rfl
    rintro _ rfl
    rintro _ rfl
    rintro _ rfl
    rintro _ rfl
    rintro _ rfl
    rintro _ rfl
    simp only [putAll, List.take, Act.put, List.setIfInBounds_toArray, List.set_cons_zero, List.set_cons_succ]
    refine wpAny_done (by kernel_rfl) ?_ _
    go_wp2_with fail
    have F1 := Lib.hid (hxw2.keeps _ _ F0.out); have E1 := Lib.hid (hxw2.keeps _ _ e0)
    refine wp_flow3 14 1 [isV (.slice (some ⟨w.heap.size + 1 + 1, 0, none⟩) 4 4), isV (.int .i64 3), isV (.pointer (some ⟨w.heap.size + 1 + 1, 3, none⟩)), isV (.int .i64 8), isV (S (67 :: r)), isV (.int .u8 67), isV (.slice (some ⟨w.heap.size + 1 + 1 + 1, 0, none⟩) 4 4), isV (.int .i64 3), isV (.pointer (some ⟨w.heap.size + 1 + 1 + 1, 3, none⟩)), isV (.int .u8 65), isV (.int .u8 2), isV (.int .i64 2), isV (.agg #[.int .i64 8, .int .i64 2]), fun v w => ∃ b, v = .pointer (some ⟨b, 0, none⟩) ∧ w2.heap.size ≤ b ∧ w.cell? ⟨b, 0, none⟩ = some (I 0) ∧ w.cell? ⟨b, 1, none⟩ = some (I 0) ∧ w.frozen? ⟨b, 0, none⟩ = false ∧ w.frozen? ⟨b, 1, none⟩ = false] (by kernel_rfl) rfl rfl (by kernel_rfl) (by kernel_rfl) ⟨isV_mono, isV_mono, isV_mono, isV_mono, isV_mono, isV_mono, isV_mono, isV_mono, isV_mono, isV_mono, isV_mono, isV_mono, isV_mono, fun v w w' ⟨b, e, h0, h1, h2, h3, h4⟩ hx => ⟨b, e, h0, hx.keeps _ _ h1, hx.keeps _ _ h2, (Below.frozen (p := ⟨b, 0, none⟩) hx (lt_of_cell h1)).trans h3, (Below.frozen (p := ⟨b, 1, none⟩) hx (lt_of_cell h2)).trans h4⟩, trivial⟩ ?each ?rest
    case each =>
      refine .cons ?_ (.cons ?_ (.cons ?_ (.cons ?_ (.cons ?_ (.cons ?_ (.cons ?_ (.cons ?_ (.cons ?_ (.cons ?_ (.cons ?_ (.cons ?_ (.cons ?_ (.cons ?_ (.nil))))))))))))))
      · intro fa fw hx hs hb
        have s12 : fa.tmps[(12 : Nat)]? = some (.slice (some ⟨w.heap.size + 1 + 1, 0, none⟩) 4 4) := (hb 12 (by kernel_rfl)).trans (by rfl)
        refine .inl ⟨wanted_free rfl, fun K hK => ?_⟩
        clear hs hb hx
        go_simp
        exact hK _ _ rfl (Ext.refl _)
      · intro fa fw hx hs hb
        have s14 : fa.tmps[(14 : Nat)]? = some (.int .i64 3) := (hb 14 (by kernel_rfl)).trans (by rfl)
        refine .inl ⟨wanted_free rfl, fun K hK => ?_⟩
        clear hs hb hx
        go_simp
        exact hK _ _ rfl (Ext.refl _)
      · intro fa fw hx hs hb
        obtain ⟨_, s89, rfl⟩ := hs 0 89 (by kernel_rfl) (by kernel_rfl)
        obtain ⟨_, s90, rfl⟩ := hs 1 90 (by kernel_rfl) (by kernel_rfl)
        refine .inl ⟨wanted_free rfl, fun K hK => ?_⟩
        clear hs hb hx
        go_simp
        exact hK _ _ rfl (Ext.refl _)
      · intro fa fw hx hs hb
        obtain ⟨_, s91, rfl⟩ := hs 2 91 (by kernel_rfl) (by kernel_rfl)
        have c0 := hx.keeps _ _ E1.out
        refine .inl ⟨wanted_free rfl, fun K hK => ?_⟩
        clear hs hb hx
        go_simp
        exact hK _ _ rfl (Ext.refl _)
      · intro fa fw hx hs hb
        have s15 : fa.tmps[(15 : Nat)]? = some (S (67 :: r)) := (hb 15 (by kernel_rfl)).trans (by rfl)
        refine .inl ⟨wanted_free rfl, fun K hK => ?_⟩
        clear hs hb hx
        go_simp
        exact hK _ _ rfl (Ext.refl _)
      · intro fa fw hx hs hb
        obtain ⟨_, s93, rfl⟩ := hs 4 93 (by kernel_rfl) (by kernel_rfl)
        refine .inl ⟨wanted_free rfl, fun K hK => ?_⟩
        clear hs hb
        go_simp
        exact hK _ _ rfl (Ext.refl _)
      · intro fa fw hx hs hb
        have s13 : fa.tmps[(13 : Nat)]? = some (.slice (some ⟨w.heap.size + 1 + 1 + 1, 0, none⟩) 4 4) := (hb 13 (by kernel_rfl)).trans (by rfl)
        refine .inl ⟨wanted_free rfl, fun K hK => ?_⟩
        clear hs hb hx
        go_simp
        exact hK _ _ rfl (Ext.refl _)
      · intro fa fw hx hs hb
        have s14 : fa.tmps[(14 : Nat)]? = some (.int .i64 3) := (hb 14 (by kernel_rfl)).trans (by rfl)
        refine .inl ⟨wanted_free rfl, fun K hK => ?_⟩
        clear hs hb hx
        go_simp
        exact hK _ _ rfl (Ext.refl _)
      · intro fa fw hx hs hb
        obtain ⟨_, s95, rfl⟩ := hs 6 95 (by kernel_rfl) (by kernel_rfl)
        obtain ⟨_, s96, rfl⟩ := hs 7 96 (by kernel_rfl) (by kernel_rfl)
        refine .inl ⟨wanted_free rfl, fun K hK => ?_⟩
        clear hs hb hx
        go_simp
        exact hK _ _ rfl (Ext.refl _)
      · intro fa fw hx hs hb
        obtain ⟨_, s97, rfl⟩ := hs 8 97 (by kernel_rfl) (by kernel_rfl)
        have c0 := hx.keeps _ _ F1.out
        refine .inl ⟨wanted_free rfl, fun K hK => ?_⟩
        clear hs hb hx
        go_simp
        exact hK _ _ rfl (Ext.refl _)
      · intro fa fw hx hs hb
        obtain ⟨_, s94, rfl⟩ := hs 5 94 (by kernel_rfl) (by kernel_rfl)
        obtain ⟨_, s98, rfl⟩ := hs 9 98 (by kernel_rfl) (by kernel_rfl)
        refine .inl ⟨wanted_free rfl, fun K hK => ?_⟩
        clear hs hb
        go_simp
        exact hK _ _ rfl (Ext.refl _)
      · intro fa fw hx hs hb
        obtain ⟨_, s99, rfl⟩ := hs 10 99 (by kernel_rfl) (by kernel_rfl)
        refine .inl ⟨wanted_free rfl, fun K hK => ?_⟩
        clear hs hb
        go_simp
        exact hK _ _ rfl (Ext.refl _)
      · intro fa fw hx hs hb
        obtain ⟨_, s92, rfl⟩ := hs 3 92 (by kernel_rfl) (by kernel_rfl)
        obtain ⟨_, s100, rfl⟩ := hs 11 100 (by kernel_rfl) (by kernel_rfl)
        refine .inl ⟨wanted_free rfl, fun K hK => ?_⟩
        clear hs hb
        go_simp
        exact hK _ _ rfl (Ext.refl _)
      · intro fa fw hx hs hb
        refine .inl ⟨wanted_free rfl, fun K hK => ?_⟩
        clear hs hb
        go_simp
        exact hK _ _ ⟨_, rfl, hx.size, by rw [World.cell?_alloc_new]; rfl, by rw [World.cell?_alloc_new]; rfl, World.frozen?_alloc_at _ _ _ _ rfl, World.frozen?_alloc_at _ _ _ _ rfl⟩ ((Ext.refl _).alloc _)
    case rest =>
      intro w3 hxw3
      rintro _ rfl
      rintro _ rfl
      rintro _ rfl
      rintro _ rfl
      rintro _ rfl
      rintro _ rfl
      rintro _ rfl
      rintro _ rfl
      rintro _ rfl
      rintro _ rfl
      rintro _ rfl
      rintro _ rfl
      rintro _ rfl
      rintro _ ⟨b17, rfl, q17⟩
      simp only [putAll, List.take, Act.put, List.setIfInBounds_toArray, List.set_cons_zero, List.set_cons_succ]
      obtain ⟨qb0, qb1, qb2, qb3, qb4⟩ := q17
      refine wpAny_ready (rs := [14]) (by kernel_rfl) (by simp) (AllReady.cons rfl (fun KK hKK => ?_) AllReady.nil)
      go_simp
      refine hKK _ _ ?_
      clear hKK KK
      refine wpAny_done (by kernel_rfl) ?_ _
      have k0 : ((w3.setCell ⟨b17, 0, none⟩ (.int .i64 8)).setCell ⟨b17, 1, none⟩ (.int .i64 2)).cell? ⟨b17, 0, none⟩ = some (.int .i64 8) := (World.cell?_setCell_other _ _ _ _ (by simp)).trans (World.cell?_setCell_same _ _ _ qb1)
      have k1 : ((w3.setCell ⟨b17, 0, none⟩ (.int .i64 8)).setCell ⟨b17, 1, none⟩ (.int .i64 2)).cell? ⟨b17, 1, none⟩ = some (.int .i64 2) := World.cell?_setCell_same _ _ _ ((World.cell?_setCell_other _ _ _ _ (by simp)).trans qb2)
      have x4 : Ext w ((w3.setCell ⟨b17, 0, none⟩ (.int .i64 8)).setCell ⟨b17, 1, none⟩ (.int .i64 2)) := (((xf.trans hxw2).trans hxw3).setCell (by show w.heap.size ≤ b17; have := (xf.trans hxw2).size; omega) _).setCell (by show w.heap.size ≤ b17; have := (xf.trans hxw2).size; omega) _
      generalize (w3.setCell ⟨b17, 0, none⟩ (.int .i64 8)).setCell ⟨b17, 1, none⟩ (.int .i64 2) = w4 at *
      clear qb1 qb2 qb3 qb4
      have hrl : r.length ≤ 5000 := by have := rest_len wWas s; rw [HQ'.out] at this; simp at this; omega
      go_wp2_with fail
      rw [ba_tail1]
      refine (twoR_any hN w4 ⟨8, 2⟩ r wThen wElse wEnd l hrl (by decide) (by decide) (by decide) hl hn).mono ?_
      rintro e w5 h5
      rw [HT'.out] at h5
      rcases T with _ | q
      · obtain ⟨u, v, rfl, x5⟩ := h5
        go_wp2
        exact bodyPost_ret (v := Pr3 u v (.bool false)) (by simp [results, Tryz.results42, go_sem]) rfl ⟨_, _, rfl, x4.trans x5⟩
      · obtain ⟨A, c, rfl, y1, y2, y3, y4, y5, x5⟩ := h5
        go_wp2
        exact bodyPost_ret (v := Pr3 (.slice A q.1.size c) (S q.2) (.bool true)) (by simp [results, Tryz.results42, go_sem]) rfl ⟨A, c, rfl, y1, y2, y3, y4, y5, x4.trans x5⟩
end Go.Proofs.YtgohhcnmkomafaaGreatDoor
/- The reference's reader of texts, whatever it reads; ProgFrom. -/
namespace Go.Proofs.YtgohhcnmkomafaaGreatDoor
set_option linter.unusedVariables false
set_option linter.unusedSimpArgs false
open Go.RowKit
theorem u8_ne {c d : UInt8} (h : c ≠ d) : c.toNat ≠ d.toNat := fun e => h (UInt8.toNat_inj.1 e)
theorem sign_cases65 (c : UInt8) (r : List UInt8) : (c.toNat < 65 ∧ signP 65 (c :: r) = none) ∨ (67 < c.toNat ∧ signP 65 (c :: r) = none) ∨ (c = 65 ∧ signP 65 (c :: r) = some (0, r)) ∨ (c = 66 ∧ signP 65 (c :: r) = some (1, r)) ∨ (c = 67 ∧ signP 65 (c :: r) = some (2, r)) := by
  by_cases e0 : c = 65
  · subst e0; exact .inr (.inr (.inl ⟨rfl, rfl⟩))
  by_cases e1 : c = 66
  · subst e1; exact .inr (.inr (.inr (.inl ⟨rfl, rfl⟩)))
  by_cases e2 : c = 67
  · subst e2; exact .inr (.inr (.inr (.inr ⟨rfl, rfl⟩)))
  have hn : signP 65 (c :: r) = none := by
    simp only [signP]
    rw [if_neg e0, if_neg (show ¬ c = 65 + 1 from e1), if_neg (show ¬ c = 65 + 2 from e2)]
  have n0 := u8_ne e0; have n1 := u8_ne e1; have n2 := u8_ne e2
  rw [show (65 : UInt8).toNat = 65 from rfl] at n0
  rw [show (66 : UInt8).toNat = 66 from rfl] at n1
  rw [show (67 : UInt8).toNat = 67 from rfl] at n2
  rcases Nat.lt_or_ge c.toNat 65 with h | h
  · exact .inl ⟨h, hn⟩
  · exact .inr (.inl ⟨by omega, hn⟩)
theorem sign_cases120 (c : UInt8) (r : List UInt8) : (c.toNat < 120 ∧ signP 120 (c :: r) = none) ∨ (122 < c.toNat ∧ signP 120 (c :: r) = none) ∨ (c = 120 ∧ signP 120 (c :: r) = some (0, r)) ∨ (c = 121 ∧ signP 120 (c :: r) = some (1, r)) ∨ (c = 122 ∧ signP 120 (c :: r) = some (2, r)) := by
  by_cases e0 : c = 120
  · subst e0; exact .inr (.inr (.inl ⟨rfl, rfl⟩))
  by_cases e1 : c = 121
  · subst e1; exact .inr (.inr (.inr (.inl ⟨rfl, rfl⟩)))
  by_cases e2 : c = 122
  · subst e2; exact .inr (.inr (.inr (.inr ⟨rfl, rfl⟩)))
  have hn : signP 120 (c :: r) = none := by
    simp only [signP]
    rw [if_neg e0, if_neg (show ¬ c = 120 + 1 from e1), if_neg (show ¬ c = 120 + 2 from e2)]
  have n0 := u8_ne e0; have n1 := u8_ne e1; have n2 := u8_ne e2
  rw [show (120 : UInt8).toNat = 120 from rfl] at n0
  rw [show (121 : UInt8).toNat = 121 from rfl] at n1
  rw [show (122 : UInt8).toNat = 122 from rfl] at n2
  rcases Nat.lt_or_ge c.toNat 120 with h | h
  · exact .inl ⟨h, hn⟩
  · exact .inr (.inl ⟨by omega, hn⟩)
theorem from_ok : ∀ n, FromOK n
  | 0 => fun w s left hs h0 h1 hn => from_zero w s left (by omega)
  | n + 1 => fun w s left hs h0 h1 hn => by
    have hN := from_ok n
    rcases Int.lt_or_le 0 left with hp | hp
    rotate_left
    · rw [show left.toNat = 0 from by omega]
      exact from_zero w s left hp
    obtain ⟨l, rfl⟩ : ∃ l : Nat, left = (l : Int) + 1 := ⟨(left - 1).toNat, by omega⟩
    have hl : l ≤ 13 := by omega
    have hln : l < n := by omega
    rw [show ((l : Int) + 1).toNat = l + 1 from by omega]
    have hR : rreadT (n + 1) (l + 1) s = roneT (rreadT n) l s := rfl
    rw [hR]
    cases hi0 : isP wNothing s
    rotate_left
    · rw [show roneT (rreadT n) l s = some (.leaf ⟨0, 0⟩, restP wNothing s) from by simp [roneT, cutP_isP, hi0]]
      exact from_p0 w s l hs hl hi0
    cases hi1 : isP wPause s
    rotate_left
    · rw [show roneT (rreadT n) l s = some (.leaf ⟨1, 0⟩, restP wPause s) from by simp [roneT, cutP_isP, hi0, hi1]]
      exact from_p1 w s l hs hl hi0 hi1
    cases hi2 : isP wHalt s
    rotate_left
    · rw [show roneT (rreadT n) l s = some (.leaf ⟨2, 0⟩, restP wHalt s) from by simp [roneT, cutP_isP, hi0, hi1, hi2]]
      exact from_p2 w s l hs hl hi0 hi1 hi2
    cases hi3 : isP wEmit s
    rotate_left
    · rw [show roneT (rreadT n) l s = (signP 65 (restP wEmit s)).map fun y => (.leaf ⟨3, y.1⟩, y.2) from by simp [roneT, cutP_isP, hi0, hi1, hi2, hi3]]
      cases hq : restP wEmit s with
      | nil => exact from_w3_nil w s l hs hl hi0 hi1 hi2 hi3 hq
      | cons c r =>
        rcases sign_cases65 c r with ⟨h, hz⟩ | ⟨h, hz⟩ | ⟨h, hz⟩ | ⟨h, hz⟩ | ⟨h, hz⟩
        · rw [hz]; exact from_w3_lo w s l hs hl hi0 hi1 hi2 hi3 hq h
        · rw [hz]; exact from_w3_hi w s l hs hl hi0 hi1 hi2 hi3 hq h
        · rw [hz]; subst h; exact from_w3_0 w s l hs hl hi0 hi1 hi2 hi3 hq
        · rw [hz]; subst h; exact from_w3_1 w s l hs hl hi0 hi1 hi2 hi3 hq
        · rw [hz]; subst h; exact from_w3_2 w s l hs hl hi0 hi1 hi2 hi3 hq
    cases hi4 : isP wAwait s
    rotate_left
    · rw [show roneT (rreadT n) l s = (signP 120 (restP wAwait s)).map fun y => (.leaf ⟨4, y.1⟩, y.2) from by simp [roneT, cutP_isP, hi0, hi1, hi2, hi3, hi4]]
      cases hq : restP wAwait s with
      | nil => exact from_w4_nil w s l hs hl hi0 hi1 hi2 hi3 hi4 hq
      | cons c r =>
        rcases sign_cases120 c r with ⟨h, hz⟩ | ⟨h, hz⟩ | ⟨h, hz⟩ | ⟨h, hz⟩ | ⟨h, hz⟩
        · rw [hz]; exact from_w4_lo w s l hs hl hi0 hi1 hi2 hi3 hi4 hq h
        · rw [hz]; exact from_w4_hi w s l hs hl hi0 hi1 hi2 hi3 hi4 hq h
        · rw [hz]; subst h; exact from_w4_0 w s l hs hl hi0 hi1 hi2 hi3 hi4 hq
        · rw [hz]; subst h; exact from_w4_1 w s l hs hl hi0 hi1 hi2 hi3 hi4 hq
        · rw [hz]; subst h; exact from_w4_2 w s l hs hl hi0 hi1 hi2 hi3 hi4 hq
    cases hi5 : isP wIf s
    rotate_left
    · rw [show roneT (rreadT n) l s = (signP 120 (restP wIf s)).bind fun y => rtwoT (rreadT n) l ⟨7, y.1⟩ wThen wElse wEnd y.2 from by simp [roneT, cutP_isP, hi0, hi1, hi2, hi3, hi4, hi5]]
      cases hq : restP wIf s with
      | nil => exact from_w5_nil w s l hs hl hi0 hi1 hi2 hi3 hi4 hi5 hq
      | cons c r =>
        rcases sign_cases120 c r with ⟨h, hz⟩ | ⟨h, hz⟩ | ⟨h, hz⟩ | ⟨h, hz⟩ | ⟨h, hz⟩
        · rw [hz]; exact from_w5_lo w s l hs hl hi0 hi1 hi2 hi3 hi4 hi5 hq h
        · rw [hz]; exact from_w5_hi w s l hs hl hi0 hi1 hi2 hi3 hi4 hi5 hq h
        · rw [hz]; subst h; exact from_w5_0 w s l hs hl hi0 hi1 hi2 hi3 hi4 hi5 hq hN hln rfl
        · rw [hz]; subst h; exact from_w5_1 w s l hs hl hi0 hi1 hi2 hi3 hi4 hi5 hq hN hln rfl
        · rw [hz]; subst h; exact from_w5_2 w s l hs hl hi0 hi1 hi2 hi3 hi4 hi5 hq hN hln rfl
    cases hi6 : isP wWas s
    rotate_left
    · rw [show roneT (rreadT n) l s = (signP 65 (restP wWas s)).bind fun y => rtwoT (rreadT n) l ⟨8, y.1⟩ wThen wElse wEnd y.2 from by simp [roneT, cutP_isP, hi0, hi1, hi2, hi3, hi4, hi5, hi6]]
      cases hq : restP wWas s with
      | nil => exact from_w6_nil w s l hs hl hi0 hi1 hi2 hi3 hi4 hi5 hi6 hq
      | cons c r =>
        rcases sign_cases65 c r with ⟨h, hz⟩ | ⟨h, hz⟩ | ⟨h, hz⟩ | ⟨h, hz⟩ | ⟨h, hz⟩
        · rw [hz]; exact from_w6_lo w s l hs hl hi0 hi1 hi2 hi3 hi4 hi5 hi6 hq h
        · rw [hz]; exact from_w6_hi w s l hs hl hi0 hi1 hi2 hi3 hi4 hi5 hi6 hq h
        · rw [hz]; subst h; exact from_w6_0 w s l hs hl hi0 hi1 hi2 hi3 hi4 hi5 hi6 hq hN hln rfl
        · rw [hz]; subst h; exact from_w6_1 w s l hs hl hi0 hi1 hi2 hi3 hi4 hi5 hi6 hq hN hln rfl
        · rw [hz]; subst h; exact from_w6_2 w s l hs hl hi0 hi1 hi2 hi3 hi4 hi5 hi6 hq hN hln rfl
    cases hi7 : isP wOpen s
    · rw [show roneT (rreadT n) l s = none from by simp [roneT, cutP_isP, hi0, hi1, hi2, hi3, hi4, hi5, hi6, hi7]]
      exact from_none w s l hs hl hi0 hi1 hi2 hi3 hi4 hi5 hi6 hi7
    · rw [show roneT (rreadT n) l s = (rtwoT (rreadT n) l ⟨5, 0⟩ [] wSemi wClose (restP wOpen s)).or (rtwoT (rreadT n) l ⟨6, 0⟩ [] wBar wClose (restP wOpen s)) from by
        simp [roneT, cutP_isP, hi0, hi1, hi2, hi3, hi4, hi5, hi6, hi7]; cases rtwoT (rreadT n) l ⟨5, 0⟩ [] wSemi wClose (restP wOpen s) <;> rfl]
      exact from_open w s l hs hl hi0 hi1 hi2 hi3 hi4 hi5 hi6 hi7 hN hln rfl rfl
section
variable (s : List UInt8) (w : World) (hs : s.length ≤ 4096)
include hs
end
end Go.Proofs.YtgohhcnmkomafaaGreatDoor
/- The reference's ProgFrom. -/
namespace Go.Proofs.YtgohhcnmkomafaaGreatDoor
set_option linter.unusedVariables false
set_option linter.unusedSimpArgs false
open Go.RowKit
theorem rcheck_any2 (A : Option Addr) (n c : Nat) (p : List PNode) (w : World) (h : SlN w A n p) (hn : n ≤ maxLen) :
    Calls Tryz.prog 43 #[.slice A n c] w fun e w' => e = .returned (I (checkP p)) ∧ w = w' := by
  rw [← rcheckP_eq]; exact rcheck_any A n c p w h hn
theorem prog_yes (s : List UInt8) (w : World) (t : Tr) (hs : s.length ≤ 4096) (hp : progOfText s = some t) :
    Calls Tryz.prog 16 #[S s] w fun e w' => ∃ A c, e = .returned (Pr (.slice A t.size c) (.bool true)) ∧ SlN w' A t.size t.flat ∧ t.size ≤ c ∧ c ≤ maxLen ∧ Ext w w' := by
  obtain ⟨he, ok, hg, hsz⟩ := progOf_some hp
  have hr : rreadT 15 14 s = some (t, []) := by rw [he]; exact rprogOf_text ok hg hsz
  have hck : checkP t.flat = 0 := tree_check ok hsz hg
  have hK : t.flat.any badKind = false := (checkP_ok hck).2.1
  have HR := Lib.hid hr; have HE := Lib.hid he; have HCK := Lib.hid hck
  have HN := Lib.hid (fun (A : Option Addr) (c : Nat) (Q : World) (hQ : SlN Q A t.size t.flat) => rnode_any A t.size c t.flat (by omega) hK t 0 Q hQ (TreeAt.root t) ok hg)
  clear hr he hck hK ok hg hp
  go_enter Tryz.func16, Tryz.ntmps16
  go_wp2_with fail
  refine (FromOK.yes (from_ok 15) (m := 14) rfl (by omega) (by omega) (by omega) (by omega) HR.out).mono ?_; rintro e w1 ⟨A, c, rfl, sl, k1, k2, k3, k4, x1⟩
  have SL := Lib.hid sl; have X1 := Lib.hid x1; clear sl x1
  go_wp2_with fail
  refine (rcheck_any2 A t.size c t.flat w1 SL.out (by unfold maxLen; omega)).mono ?_; rintro e w2 ⟨rfl, rfl⟩; rw [HCK.out]
  go_wp2_with fail
  refine (HN.out A c w1 SL.out).mono ?_; rintro e w2 ⟨rfl, x2⟩
  rw [← HE.out]
  go_wp2
  go_ret2
  exact ⟨A, c, rfl, SL.out.keep x2.keeps, k1, k2, X1.out.trans x2⟩
theorem prog_no (s : List UInt8) (w : World) (hs : s.length ≤ 4096) (hp : progOfText s = none) :
    Calls Tryz.prog 16 #[S s] w fun e w' => e = .returned (Pr (.slice none 0 0) (.bool false)) ∧ Ext w w' := by
  cases hr : rreadT 15 14 s with
  | none =>
    have HR := Lib.hid hr; clear hr hp
    go_enter Tryz.func16, Tryz.ntmps16
    go_wp2_with fail
    refine (FromOK.no (from_ok 15) (m := 14) rfl (by omega) (by omega) (by omega) (by omega) HR.out).mono ?_; rintro e w1 ⟨u, v, rfl, x1⟩
    go_wp2
    go_ret2
    exact ⟨rfl, x1⟩
  | some q =>
    obtain ⟨t, r⟩ := q
    by_cases h0 : r = []
    · subst h0
      by_cases hck : checkP t.flat = 0
      · obtain ⟨t', ok, hfl, hsz, hg⟩ := check_tree hck
        have hne : textT t' ≠ s := by
          rintro rfl
          rw [progOf_text ok hg hsz] at hp; cases hp
        have hl : t'.size = t.size := by rw [← flat_size, ← flat_size, hfl]
        have hK : t'.flat.any badKind = false := by rw [← hfl]; exact (checkP_ok hck).2.1
        have HR := Lib.hid hr; have HCK := Lib.hid hck; have HNE := Lib.hid hne; have HL := Lib.hid hl; have HF := Lib.hid hfl
        have HN := Lib.hid (fun (A : Option Addr) (c : Nat) (Q : World) (hQ : SlN Q A t'.size t'.flat) => rnode_any A t'.size c t'.flat (by omega) hK t' 0 Q hQ (TreeAt.root t') ok hg)
        clear hr hck hp hK hne hl hfl
        have hsz' : t.size ≤ 14 := by have := HL.out; omega
        go_enter Tryz.func16, Tryz.ntmps16
        go_wp2_with fail
        refine (FromOK.yes (from_ok 15) (m := 14) rfl (by omega) (by omega) (by omega) (by omega) HR.out).mono ?_; rintro e w1 ⟨A, c, rfl, sl, k1, k2, k3, k4, x1⟩
        have SL := Lib.hid sl; have X1 := Lib.hid x1; clear sl x1
        go_wp2_with fail
        refine (rcheck_any2 A t.size c t.flat w1 SL.out (by unfold maxLen; omega)).mono ?_; rintro e w2 ⟨rfl, rfl⟩; rw [HCK.out]
        go_wp2_with fail
        rw [← HL.out]
        refine (HN.out A c w1 (by have := SL.out; rw [HF.out] at this; rw [HL.out]; exact this)).mono ?_; rintro e w2 ⟨rfl, x2⟩
        have hne : (textT t' == s) = false := by have := HNE.out; simpa using this
        go_wp2
        go_ret2
        exact ⟨rfl, X1.out.trans x2⟩
      · have HR := Lib.hid hr
        generalize hq : checkP t.flat = q at hck
        have g : (q != 0) = true := by simpa using hck
        have HQ := Lib.hid hq
        clear hr hp hq
        go_enter Tryz.func16, Tryz.ntmps16
        go_wp2_with fail
        refine (FromOK.yes (from_ok 15) (m := 14) rfl (by omega) (by omega) (by omega) (by omega) HR.out).mono ?_; rintro e w1 ⟨A, c, rfl, sl, k1, k2, k3, k4, x1⟩
        have SL := Lib.hid sl; have X1 := Lib.hid x1; clear sl x1
        go_wp2_with fail
        refine (rcheck_any2 A t.size c t.flat w1 SL.out (by unfold maxLen; omega)).mono ?_; rintro e w2 ⟨rfl, rfl⟩; rw [HQ.out]
        go_wp2
        go_ret2
        exact ⟨rfl, X1.out⟩
    · have HR := Lib.hid hr; clear hr hp
      go_enter Tryz.func16, Tryz.ntmps16
      go_wp2_with fail
      refine (FromOK.yes (from_ok 15) (m := 14) rfl (by omega) (by omega) (by omega) (by omega) HR.out).mono ?_; rintro e w1 ⟨A, c, rfl, sl, k1, k2, k3, k4, x1⟩
      have X1 := Lib.hid x1; clear sl x1
      go_wp2
      go_ret2
      exact ⟨rfl, X1.out⟩
end Go.Proofs.YtgohhcnmkomafaaGreatDoor
/- Step of package walk. -/
namespace Go.Proofs.YtgohhcnmkomafaaGreatDoor
set_option linter.unusedVariables false
set_option linter.unusedSimpArgs false
open Go.RowKit
end Go.Proofs.YtgohhcnmkomafaaGreatDoor
/- The reference's WalkOf. -/
namespace Go.Proofs.YtgohhcnmkomafaaGreatDoor
set_option linter.unusedVariables false
set_option linter.unusedSimpArgs false
open Go.RowKit
theorem power3 (w : World) : Calls Tryz.prog 45 #[.int .i64 3] w fun e w' => e = .returned (.int .i64 8) ∧ w = w' := power_any w 3 (by omega)
theorem bits3 (ins : Int) (h0 : 0 ≤ ins) (h8 : ins < 8) (w : World) : Calls Tryz.prog 46 #[I ins, .int .i64 3] w fun e w' => ∃ g c, e = .returned (.slice (some ⟨g, 0, none⟩) 3 c) ∧ w.heap.size ≤ g ∧ g < w'.heap.size ∧ (∀ j x, (bitsM ins 3)[j]? = some x → w'.cell? ⟨g, j, none⟩ = some (I x)) ∧ Ext w w' :=
  (rbits_any ins 3 w h0 (by omega) (by omega)).mono fun e w' ⟨v, he, hown, hx⟩ => by
    obtain ⟨g, c, rfl⟩ := own_form hown (by omega)
    obtain ⟨A, c', e1, -, -, hs⟩ := own_sl hown
    injection e1 with e1 _ _; subst e1
    refine ⟨g, c, he, (hown.lt g rfl).1, (hown.lt g rfl).2, fun j x hj => ?_, hx⟩
    obtain ⟨b, off, e2, hc⟩ := hs.2 j (I x) (by rw [List.getElem?_map, hj]; rfl)
    injection e2 with e2; injection e2 with e2 e3; subst e2; subst e3
    simpa using hc
set_option maxRecDepth 100000 in
set_option maxHeartbeats 8000000 in
theorem walkOf_any (PA : Option Addr) (n pc : Nat) (p : List PNode) (fr : Bool) (WA : Option Addr) (wn wc : Nat) (OA : Option Addr) (on oc : Nat) (r : RestM) (ins : Int) (w : World)
    (hp : SlN w PA n p) (hr : RestC w fr WA wn wc OA on oc r) (hn : n ≤ maxLen) :
    Calls Tryz.prog 22 #[.slice PA n pc, restV fr WA wn wc OA on oc, I ins] w fun e w' => RestB w w' e (stepM p r ins).1 (stepM p r ins).2.1 (stepM p r ins).2.2 := by
  generalize hM : stepM p r ins = M
  unfold stepM at hM
  have hpl := hp.1
  obtain ⟨W, hW⟩ : ∃ W, W = w.alloc (.cells #[Bv fr, .slice WA wn wc, .slice OA on oc] 34) := ⟨_, rfl⟩
  obtain ⟨W2, hW2⟩ : ∃ W2, W2 = W.alloc (.cells #[.bool false, .slice none 0 0, .slice none 0 0] 34) := ⟨_, rfl⟩
  obtain ⟨p0, p1, p2, hsz⟩ := restBox w fr WA wn wc OA on oc hW
  obtain ⟨y0, y1, y2, hsz2⟩ := restBox W false none 0 0 none 0 0 hW2
  have hWs : W.heap.size = w.heap.size + 1 := by rw [hW]; simp
  rw [hWs] at y0 y1 y2
  have f1 : ∀ j, W2.frozen? ⟨w.heap.size + 1, j, none⟩ = false := fun j => by rw [hW2, ← hWs]; exact World.frozen?_alloc_at _ _ _ _ rfl
  have hxW2 : Ext W W2 := by rw [hW2]; exact (Ext.refl _).alloc _
  have hx2 : Ext w W2 := Ext.trans (by rw [hW]; exact (Ext.refl _).alloc _) hxW2
  have x0 := hxW2.keeps _ _ p0; have x1 := hxW2.keeps _ _ p1; have x2 := hxW2.keeps _ _ p2
  have hb2 : w.heap.size + 1 < W2.heap.size := by omega
  have hW3 : W2 = (w.alloc (.cells #[Bv fr, .slice WA wn wc, .slice OA on oc] 34)).alloc (.cells #[.bool false, .slice none 0 0, .slice none 0 0] 34) := by rw [hW2, hW]
  have CK := Lib.hid (rCheckRest_any PA n pc p fr WA wn wc OA on oc r W2 (hp.keep hx2.keeps) (hr.keep hx2.keeps) hn)
  have HP0 := Lib.hid hp; have HR0 := Lib.hid hr
  have HW := Lib.hid hW3; have HP := Lib.hid (hp.keep hx2.keeps); have HR := Lib.hid (hr.keep hx2.keeps); have HX2 := Lib.hid hx2
  clear hp hr hW hW2 hxW2 p0 p1 p2 hsz hsz2 hWs hW3 hx2
  by_cases h0 : checkR p r ≠ 0
  · rw [if_pos h0] at hM
    have HM := Lib.hid hM; clear hM
    go_enter Tryz.func22, Tryz.ntmps22
    go_wp2_with fail
    rw [← HW.out]
    go_wp2_with fail
    refine CK.out.mono ?_; rintro e w1 ⟨rfl, hx1⟩
    have z0 := hx1.keeps _ _ y0; have z1 := hx1.keeps _ _ y1; have z2 := hx1.keeps _ _ y2
    have ff : ∀ j, w1.frozen? ⟨w.heap.size + 1, j, none⟩ = false := fun j => by rw [World.frozen?_of_block (a := ⟨w.heap.size + 1, j, none⟩) (hx1.block _ hb2)]; exact f1 j
    go_wp2
    refine bodyPost_ret (v := Pr3 (restV false none 0 0 none 0 0) (Bv false) (I (checkR p r))) (by simp [results, Tryz.results22, go_sem, z0, z1, z2]) rfl ⟨false, none, 0, 0, none, 0, 0, by rw [← HM.out], by rw [← HM.out]; exact RestC.zero _, NewA.no _, NewA.no _, ?_⟩
    exact (((HX2.out.trans hx1).setCell (by show w.heap.size ≤ w.heap.size + 1; omega) _).setCell (by show w.heap.size ≤ w.heap.size + 1; omega) _).setCell (by show w.heap.size ≤ w.heap.size + 1; omega) _
  rw [if_neg h0] at hM
  have h00 : checkR p r = 0 := by simpa using h0
  have H00 := Lib.hid h00
  obtain ⟨k1, k2, k3, -⟩ := checkR_ok h00
  have k4 := checkR_waits h00
  clear h0 h00
  by_cases h1 : ins < 0 ∨ 8 ≤ ins
  · rw [if_pos h1] at hM
    have HM := Lib.hid hM
    have hq : (decide ((0 : Int) ≤ ins) && decide (ins ≤ 7)) = false := by simp; omega
    have HQ := Lib.hid hq
    clear hM h1 k1 k2 k3 k4 hq
    go_enter Tryz.func22, Tryz.ntmps22
    go_wp2_with fail
    rw [← HW.out]
    go_wp2_with fail
    refine CK.out.mono ?_; rintro e w1 ⟨rfl, hx1⟩; rw [H00.out]
    have z0 := hx1.keeps _ _ y0; have z1 := hx1.keeps _ _ y1; have z2 := hx1.keeps _ _ y2
    have ff : ∀ j, w1.frozen? ⟨w.heap.size + 1, j, none⟩ = false := fun j => by rw [World.frozen?_of_block (a := ⟨w.heap.size + 1, j, none⟩) (hx1.block _ hb2)]; exact f1 j
    go_wp2_with fail
    refine (power3 _).mono ?_; rintro e w' ⟨rfl, rfl⟩
    go_wp2_with fail
    refine (within_any' ins 0 7 _).mono ?_; rintro e w' ⟨rfl, rfl⟩; rw [HQ.out]
    go_wp2
    refine bodyPost_ret (v := Pr3 (restV false none 0 0 none 0 0) (Bv false) (I 3)) (by simp [results, Tryz.results22, go_sem, z0, z1, z2]) rfl ⟨false, none, 0, 0, none, 0, 0, by rw [← HM.out], by rw [← HM.out]; exact RestC.zero _, NewA.no _, NewA.no _, ?_⟩
    exact (((HX2.out.trans hx1).setCell (by show w.heap.size ≤ w.heap.size + 1; omega) _).setCell (by show w.heap.size ≤ w.heap.size + 1; omega) _).setCell (by show w.heap.size ≤ w.heap.size + 1; omega) _
  · rw [if_neg h1] at hM
    have j0 : 0 ≤ ins := by omega
    have j8 : ins < 8 := by omega
    have hq : (decide ((0 : Int) ≤ ins) && decide (ins ≤ 7)) = true := by simp; omega
    have HQ := Lib.hid hq
    obtain ⟨t1, t2, t3, t4⟩ := tree_of k1
    have hn14 : n ≤ 14 := by rw [← hpl, t2, flat_size]; exact t3
    have hwn : wn = n := by have := HR.out.waits.len; omega
    have hon : on = 3 := by have := HR.out.outs.len; omega
    subst hwn; subst hon
    have htz : (treeOf p).size = wn := by rw [← flat_size, ← t2]; exact hpl
    have hK : p.any badKind = false := (checkP_ok k1).2.1
    have mk : ∀ (wX : World) (g1 g2 g3 ic : Nat), Ext W2 wX → w.heap.size + 2 ≤ g1 → w.heap.size + 2 ≤ g2 → g1 ≠ g2 → g3 ≠ g1 → g3 ≠ g2 → g1 < wX.heap.size → g2 < wX.heap.size → g3 < wX.heap.size →
        wX.ownsRow w.heap.size 4 1 (.slice (some ⟨g1, 0, none⟩) wn wn) wn ((List.replicate wn false).map Bv) → wX.ownsRow w.heap.size 4 1 (.slice (some ⟨g2, 0, none⟩) 3 3) 3 (([false, false, false] : List Bool).map Bv) → (∀ j x, (bitsM ins 3)[j]? = some x → wX.cell? ⟨g3, j, none⟩ = some (I x)) →
        ∀ Q, Q = wX.alloc (.cells #[.slice PA wn pc, Bv fr, .slice WA wn wc, .slice OA 3 oc, .slice (some ⟨g3, 0, none⟩) 3 ic, .bool false, .slice (some ⟨g1, 0, none⟩) wn wn, .slice (some ⟨g2, 0, none⟩) 3 3] 88) →
          RSt w wX.heap.size g1 g2 g3 PA wn pc fr WA wc OA oc ic ins Q ⟨List.replicate wn false, [false, false, false]⟩ ∧ Ext W2 Q := fun wX g1 g2 g3 ic hx a1 a2 a3 a4 a5 b1 b2 b3 hW hO hB Q hQ => by
      subst hQ
      have ha : Ext wX (wX.alloc (.cells #[.slice PA wn pc, Bv fr, .slice WA wn wc, .slice OA 3 oc, .slice (some ⟨g3, 0, none⟩) 3 ic, .bool false, .slice (some ⟨g1, 0, none⟩) wn wn, .slice (some ⟨g2, 0, none⟩) 3 3] 88)) := (Ext.refl wX).alloc _
      have hsX := hx.size
      refine ⟨⟨HX2.out.trans (hx.trans ha), by omega, by omega, by omega, by omega, by omega, a3, a4, a5, ?_, ?_, ?_, ?_, ?_, ?_, ?_, ?_, fun j x hj => ha.keeps _ _ (hB j x hj), own_ext hW ha, own_ext hO ha⟩, hx.trans ha⟩
      all_goals (rw [World.cell?_alloc_new]; rfl)
    have tl : ∀ (b g1 g2 g3 ic : Nat) (w2 : World) (st : StM), RSt w b g1 g2 g3 PA wn pc fr WA wc OA oc ic ins w2 st → w.heap.size + 2 ≤ g1 → w.heap.size + 2 ≤ g2 → (∃ Q, Ext W2 Q ∧ Off g1 g2 Q w2) →
        (w2.cell? ⟨w.heap.size + 1, 0, none⟩ = some (.bool false) ∧ w2.cell? ⟨w.heap.size + 1, 1, none⟩ = some (.slice none 0 0) ∧ w2.cell? ⟨w.heap.size + 1, 2, none⟩ = some (.slice none 0 0)) ∧ (∀ j, w2.frozen? ⟨w.heap.size + 1, j, none⟩ = false) ∧
        ∀ v0 v1 v2, RestC (((w2.setCell ⟨w.heap.size + 1, 0, none⟩ v0).setCell ⟨w.heap.size + 1, 1, none⟩ v1).setCell ⟨w.heap.size + 1, 2, none⟩ v2) false (some ⟨g1, 0, none⟩) wn wn (some ⟨g2, 0, none⟩) 3 3 ⟨false, st.W, st.O⟩ ∧
          Ext w (((w2.setCell ⟨w.heap.size + 1, 0, none⟩ v0).setCell ⟨w.heap.size + 1, 1, none⟩ v1).setCell ⟨w.heap.size + 1, 2, none⟩ v2) := fun b g1 g2 g3 ic w2 st hw a1 a2 ⟨Q, hQ, ho⟩ => by
      have n1 : w.heap.size + 1 ≠ g1 := by omega
      have n2 : w.heap.size + 1 ≠ g2 := by omega
      have hR : RestC w2 false (some ⟨g1, 0, none⟩) wn wn (some ⟨g2, 0, none⟩) 3 3 ⟨false, st.W, st.O⟩ := by
        obtain ⟨A, c, e, -, -, s1⟩ := own_sl hw.W
        injection e with e _ _; subst e
        obtain ⟨A, c, e, -, -, s2⟩ := own_sl hw.O
        injection e with e _ _; subst e
        exact ⟨rfl, s1, s2, ⟨Nat.le_refl _, by unfold maxLen; omega⟩, ⟨Nat.le_refl _, by unfold maxLen; omega⟩⟩
      refine ⟨⟨ho.cell (hQ.keeps _ _ y0) n1 n2, ho.cell (hQ.keeps _ _ y1) n1 n2, ho.cell (hQ.keeps _ _ y2) n1 n2⟩, fun j => ?_, fun v0 v1 v2 => ⟨((hR.far n1 n2 _).far n1 n2 _).far n1 n2 _, ?_⟩⟩
      · have e1 : w2.heap[w.heap.size + 1]? = Q.heap[w.heap.size + 1]? := ho.block _ (Nat.lt_of_lt_of_le hb2 hQ.size) n1 n2
        have e2 : Q.heap[w.heap.size + 1]? = W2.heap[w.heap.size + 1]? := hQ.block _ hb2
        rw [World.frozen?_of_block (a := ⟨w.heap.size + 1, j, none⟩) (e1.trans e2)]; exact f1 j
      · exact ((hw.ext.setCell (by show w.heap.size ≤ w.heap.size + 1; omega) _).setCell (by show w.heap.size ≤ w.heap.size + 1; omega) _).setCell (by show w.heap.size ≤ w.heap.size + 1; omega) _
    have MK := Lib.hid mk; have TL := Lib.hid tl; clear mk tl
    have BT := bits3 ins j0 j8
    simp only [turnR, turnM, HR.out.fresh, htz] at hM
    have T1 := Lib.hid t1; have T2 := Lib.hid t2; have T4 := Lib.hid t4; have K4 := Lib.hid k4; have HTZ := Lib.hid htz; have HKK := Lib.hid hK
    have HM := Lib.hid hM
    clear hM h1 hq t1 t2 t3 t4 k1 k2 k3 k4 htz hK y0 y1 y2
    go_enter Tryz.func22, Tryz.ntmps22
    go_wp2_with fail
    rw [← HW.out]
    go_wp2_with fail
    refine CK.out.mono ?_; rintro e w1 ⟨rfl, hx1⟩; rw [H00.out]
    have v0 := hx1.keeps _ _ x0; have v1 := hx1.keeps _ _ x1; have v2 := hx1.keeps _ _ x2
    have hs1 : w.heap.size + 1 < w1.heap.size := Nat.lt_of_lt_of_le hb2 hx1.size
    go_wp2_with fail
    refine (power3 _).mono ?_; rintro e w' ⟨rfl, rfl⟩
    go_wp2_with fail
    refine (within_any' ins 0 7 _).mono ?_; rintro e w' ⟨rfl, rfl⟩; rw [HQ.out]
    go_wp2_with fail
    go_region_held3 (fun w' => w'.cell? ⟨w.heap.size, 0, none⟩ = some (Bv fr) ∧ w'.cell? ⟨w.heap.size, 1, none⟩ = some (.slice WA wn wc) ∧ w'.cell? ⟨w.heap.size, 2, none⟩ = some (.slice OA 3 oc))
      (first | exact ⟨xb.keeps _ _ v0, xb.keeps _ _ v1, xb.keeps _ _ v2⟩ | exact ⟨xf.keeps _ _ v0, xf.keeps _ _ v1, xf.keeps _ _ v2⟩ | exact ⟨(xb.trans xf).keeps _ _ v0, (xb.trans xf).keeps _ _ v1, (xb.trans xf).keeps _ _ v2⟩ | exact ⟨(xf.trans xb).keeps _ _ v0, (xf.trans xb).keeps _ _ v1, (xf.trans xb).keeps _ _ v2⟩ | go_keep)
      (first | (go_at_call 46; (with_reducible refine (BT _).mono ?_); rintro e wz ⟨g3, ic, rfl, hg3, hg3', hB, xb⟩) | (go_at_call 17; (with_reducible refine (rfresh_any PA wn pc _ hn14).mono ?_); rintro e wz ⟨g1, g2, rfl, hg1, hg2, hne, hW, hO, xf⟩))
    all_goals
      have hx : Ext w1 wz := by first | exact (((Ext.refl w1).drew).trans xb).trans xf | exact (((Ext.refl w1).drew).trans xf).trans xb
      have hBz : ∀ j x, (bitsM ins 3)[j]? = some x → wz.cell? ⟨g3, j, none⟩ = some (I x) := by first | exact hB | exact fun j x h => xf.keeps _ _ (hB j x h)
      have s1 := xb.size; have s2 := xf.size
      have s3 : w1.drew.heap.size = w1.heap.size := rfl
      have a1 := (hW.lt g1 rfl).2; have a2 := (hO.lt g2 rfl).2
      have hWz : wz.ownsRow w.heap.size 4 1 (.slice (some ⟨g1, 0, none⟩) wn wn) wn ((List.replicate wn false).map Bv) := by first | exact own_base hW (by omega) | exact own_base (own_ext hW xb) (by omega)
      have hOz : wz.ownsRow w.heap.size 4 1 (.slice (some ⟨g2, 0, none⟩) 3 3) 3 (([false, false, false] : List Bool).map Bv) := by first | exact own_base hO (by omega) | exact own_base (own_ext hO xb) (by omega)
      have mk := MK.out wz g1 g2 g3 ic (hx1.trans hx) (by omega) (by omega) hne (by omega) (by omega) (by omega) (by omega) (by omega) hWz hOz hBz
      have z0 := hx.keeps _ _ v0
      have b1 : w.heap.size + 2 ≤ g1 := by omega
      have b2 : w.heap.size + 2 ≤ g2 := by omega
      have hwz : w.heap.size < wz.heap.size := by omega
      have MKz := Lib.hid mk; have B1 := Lib.hid b1; have B2 := Lib.hid b2
      clear mk b1 b2 s1 s2 s3 a1 a2 hWz hOz hBz hx hB xb xf hW hO hg1 hg2 hg3 hg3' v0 v1 v2 hne
    all_goals
      cases fr
      · cases hsome : someT r.waits (treeOf p) 0
        · have hm := HM.out
          simp only [hsome, Bool.false_eq_true, if_false] at hm
          have HM1 := Lib.hid hm; have HSO := Lib.hid hsome; clear hm hsome HM
          go_wp2_with fail
          obtain ⟨hw, hxq⟩ := MKz.out _ rfl
          refine (rsome_any w wz.heap.size g1 g2 g3 PA wn pc false WA wc OA oc ic ins p r.waits _ _ hw HP0.out HR0.out.waits hn14 HKK.out 0 (treeOf p) (by have := TreeAt.root (treeOf p); rwa [← T2.out] at this) T1.out).mono ?_; rintro e w2 ⟨rfl, rfl⟩; rw [HSO.out]
          generalize hW2 : wz.alloc (.cells #[.slice PA wn pc, Bv false, .slice WA wn wc, .slice OA 3 oc, .slice (some ⟨g3, 0, none⟩) 3 ic, .bool false, .slice (some ⟨g1, 0, none⟩) wn wn, .slice (some ⟨g2, 0, none⟩) 3 3] 88) = w2 at *
          have HXQ := Lib.hid hxq; have hs2 := hw; have o2 := Off.refl g1 g2 w2; clear hxq hw hW2
          have HS2 := Lib.hid hs2; have HO2 : Hid (∃ Q, Ext W2 Q ∧ Off g1 g2 Q w2) := ⟨_, HXQ.out, o2⟩; clear hs2 o2
          obtain ⟨⟨y0, y1, y2⟩, yf, yr⟩ := TL.out _ _ _ _ _ w2 _ HS2.out B1.out B2.out HO2.out
          have c5 := HS2.out.c5; have c6 := HS2.out.c6; have c7 := HS2.out.c7
          have YR := Lib.hid yr; clear yr
          go_wp2
          refine bodyPost_ret (v := Pr3 (restV false (some ⟨g1, 0, none⟩) wn wn (some ⟨g2, 0, none⟩) 3 3) (Bv false) (I 0)) (by simp [results, Tryz.results22, go_sem, y0, y1, y2]) rfl ⟨false, some ⟨g1, 0, none⟩, wn, wn, some ⟨g2, 0, none⟩, 3, 3, by rw [← HM1.out], by rw [← HM1.out]; exact (YR.out _ _ _).1, NewA.at (by have := B1.out; omega), NewA.at (by have := B2.out; omega), (YR.out _ _ _).2⟩
        · have hm := HM.out
          simp only [hsome, if_true, Bool.false_eq_true, if_false] at hm
          have HM1 := Lib.hid hm; have HSO := Lib.hid hsome; clear hm hsome HM
          go_wp2_with fail
          obtain ⟨hw, hxq⟩ := MKz.out _ rfl
          refine (rsome_any w wz.heap.size g1 g2 g3 PA wn pc false WA wc OA oc ic ins p r.waits _ _ hw HP0.out HR0.out.waits hn14 HKK.out 0 (treeOf p) (by have := TreeAt.root (treeOf p); rwa [← T2.out] at this) T1.out).mono ?_; rintro e w2 ⟨rfl, rfl⟩; rw [HSO.out]
          have HS0 := Lib.hid hw; have HXQ := Lib.hid hxq; clear hw hxq
          go_wp2_with fail
          refine (ron_any w wz.heap.size g1 g2 g3 PA wn pc false WA wc OA oc ic ins p r.outs r.waits HP0.out HR0.out.outs HR0.out.waits hn14 HKK.out K4.out (treeOf p) 0 (by have := TreeAt.root (treeOf p); rwa [← T2.out] at this) T1.out T4.out _ _ HS0.out HSO.out (fun j _ _ => rep_false _ _)).mono ?_; rintro e w2 ⟨rfl, hs2, o2⟩
          have HS2 := Lib.hid hs2; have HO2 : Hid (∃ Q, Ext W2 Q ∧ Off g1 g2 Q w2) := ⟨_, HXQ.out, o2⟩; clear hs2 o2
          obtain ⟨⟨y0, y1, y2⟩, yf, yr⟩ := TL.out _ _ _ _ _ w2 _ HS2.out B1.out B2.out HO2.out
          have c5 := HS2.out.c5; have c6 := HS2.out.c6; have c7 := HS2.out.c7
          have YR := Lib.hid yr; clear yr
          go_wp2
          refine bodyPost_ret (v := Pr3 (restV false (some ⟨g1, 0, none⟩) wn wn (some ⟨g2, 0, none⟩) 3 3) (Bv (onT (thereM ins) (wasM r.outs) r.waits (treeOf p) 0 ⟨List.replicate wn false, [false, false, false]⟩).1) (I 0)) (by simp [results, Tryz.results22, go_sem, y0, y1, y2]) rfl ⟨false, some ⟨g1, 0, none⟩, wn, wn, some ⟨g2, 0, none⟩, 3, 3, by rw [← HM1.out], by rw [← HM1.out]; exact (YR.out _ _ _).1, NewA.at (by have := B1.out; omega), NewA.at (by have := B2.out; omega), (YR.out _ _ _).2⟩
      · have hm := HM.out
        simp only [if_true] at hm
        have HM1 := Lib.hid hm; clear hm HM
        go_wp2_with fail
        obtain ⟨hw, hxq⟩ := MKz.out _ rfl
        refine (rbegin_any w wz.heap.size g1 g2 g3 PA wn pc true WA wc OA oc ic ins p r.outs HP0.out HR0.out.outs hn14 HKK.out (treeOf p) 0 (by have := TreeAt.root (treeOf p); rwa [← T2.out] at this) T1.out T4.out _ _ hw).mono ?_; rintro e w2 ⟨rfl, hs2, o2⟩
        have HXQ := Lib.hid hxq; clear hxq hw
        have HS2 := Lib.hid hs2; have HO2 : Hid (∃ Q, Ext W2 Q ∧ Off g1 g2 Q w2) := ⟨_, HXQ.out, o2⟩; clear hs2 o2
        obtain ⟨⟨y0, y1, y2⟩, yf, yr⟩ := TL.out _ _ _ _ _ w2 _ HS2.out B1.out B2.out HO2.out
        have c5 := HS2.out.c5; have c6 := HS2.out.c6; have c7 := HS2.out.c7
        have YR := Lib.hid yr; clear yr
        go_wp2
        refine bodyPost_ret (v := Pr3 (restV false (some ⟨g1, 0, none⟩) wn wn (some ⟨g2, 0, none⟩) 3 3) (Bv (beginT (thereM ins) (wasM r.outs) (treeOf p) 0 ⟨List.replicate wn false, [false, false, false]⟩).1) (I 0)) (by simp [results, Tryz.results22, go_sem, y0, y1, y2]) rfl ⟨false, some ⟨g1, 0, none⟩, wn, wn, some ⟨g2, 0, none⟩, 3, 3, by rw [← HM1.out], by rw [← HM1.out]; exact (YR.out _ _ _).1, NewA.at (by have := B1.out; omega), NewA.at (by have := B2.out; omega), (YR.out _ _ _).2⟩
end Go.Proofs.YtgohhcnmkomafaaGreatDoor
