/- SameRows walked. -/
import Derived.Test.YtjagbnaacfhokaaRowsOf
import Derived.Test.YtjagbnaacfhokaaSame
import Derived.Test.YtjagbnaacfhokaaFlow
import Derived.RegionTactic
import Derived.Deep.RegionHeld3
namespace Go.Proofs.Ytjagbnaacfhokaa
set_option linter.unusedVariables false
set_option linter.unusedSimpArgs false
open Go.RowKit

set_option maxHeartbeats 2000000 in
theorem sameRows_any (A B : Option Addr) (n m c d : Nat) (xs ys : List (List Int)) (w : World) (h : SlRows w A n xs) (h' : SlRows w B m ys) (hn : n ≤ maxLen) (hm : m ≤ maxLen) :
    Calls Try.prog 51 #[.slice A n c, .slice B m d] w fun e w' => e = .returned (.bool (decide (xs = ys))) ∧ Ext w w' := by
  generalize hM : decide (xs = ys) = M
  have hxl := h.1; have hyl := h'.1
  have H := Lib.hid h; have H' := Lib.hid h'; have HM := Lib.hid hM
  unfold maxLen at hn hm
  clear h h' hM
  by_cases hnm : n = m
  · subst hnm
    go_enter Try.func51, Try.ntmps51
    go_wp2_with fail
    go_loopw [5] (fun j wr => ∃ k : Nat, k ≤ n ∧ j = .int .i64 k ∧ Ext w wr ∧ decide (xs.drop k = ys.drop k) = M) (fun j _ => n - (intOf j).toNat)
    case atStart => exact ⟨0, Nat.zero_le _, rfl, Ext.refl _, by simpa using HM.out⟩
    case round =>
      obtain ⟨k, hk, rfl, hext, hR⟩ := hrel
      by_cases hlt : k < n
      · have hx : xs[k]? = some xs[k] := List.getElem?_eq_getElem (by omega)
        have hy : ys[k]? = some ys[k] := List.getElem?_eq_getElem (by omega)
        rw [List.drop_eq_getElem_cons (show k < xs.length by omega), List.drop_eq_getElem_cons (show k < ys.length by omega)] at hR
        generalize xs[k] = x at hx hR
        generalize ys[k] = y at hy hR
        obtain ⟨b1, o1, A1', c1, rfl, hc1, hs1, l1, m1⟩ := H.out.2 k x hx
        obtain ⟨b2, o2, A2, c2, rfl, hc2, hs2, l2, m2⟩ := H'.out.2 k y hy
        have C1 := Lib.hid (hext.keeps _ _ hc1); have C2 := Lib.hid (hext.keeps _ _ hc2); have S1 := Lib.hid (hs1.keep hext.keeps); have S2 := Lib.hid (hs2.keep hext.keeps)
        have L1 := Lib.hid (Nat.le_trans l1 m1); have L2 := Lib.hid (Nat.le_trans l2 m2)
        have HR := Lib.hid hR; have HE := Lib.hid hext
        clear hc1 hc2 hs1 hs2 hR hext hx hy l1 l2 m1 m2
        by_cases hxy : x = y
        · subst hxy
          go_wp2_with fail
          refine wp_flow3 10 0 [isV (.slice (some ⟨b1, o1, none⟩) n c), isV (.int .i64 k), isV (.pointer (some ⟨b1, o1 + k, none⟩)), isV (.slice A1' x.length c1), isV (.slice (some ⟨b2, o2, none⟩) n d), isV (.int .i64 k), isV (.pointer (some ⟨b2, o2 + k, none⟩)), isV (.slice A2 x.length c2), isV (.bool true), isV (.bool false)] (by kernel_rfl) rfl rfl (by kernel_rfl) (by kernel_rfl) ⟨isV_mono, isV_mono, isV_mono, isV_mono, isV_mono, isV_mono, isV_mono, isV_mono, isV_mono, isV_mono, trivial⟩ ?each ?rest
          case each =>
            refine .cons ?_ (.cons ?_ (.cons ?_ (.cons ?_ (.cons ?_ (.cons ?_ (.cons ?_ (.cons ?_ (.cons ?_ (.cons ?_ (.nil))))))))))
            · intro fa fw hx hs hb
              have s0 : fa.tmps[(0 : Nat)]? = some (.slice (some ⟨b1, o1, none⟩) n c) := (hb 0 (by kernel_rfl)).trans (by rfl)
              refine .inl ⟨wanted_free rfl, fun K hK => ?_⟩
              clear hs hb hx
              go_simp
              exact hK _ _ rfl (Ext.refl _)
            · intro fa fw hx hs hb
              have s5 : fa.tmps[(5 : Nat)]? = some (.int .i64 k) := (hb 5 (by kernel_rfl)).trans (by rfl)
              refine .inl ⟨wanted_free rfl, fun K hK => ?_⟩
              clear hs hb hx
              go_simp
              exact hK _ _ rfl (Ext.refl _)
            · intro fa fw hx hs hb
              obtain ⟨_, s17, rfl⟩ := hs 0 17 (by kernel_rfl) (by kernel_rfl)
              obtain ⟨_, s18, rfl⟩ := hs 1 18 (by kernel_rfl) (by kernel_rfl)
              refine .inl ⟨wanted_free rfl, fun K hK => ?_⟩
              clear hs hb hx
              go_simp
              exact hK _ _ rfl (Ext.refl _)
            · intro fa fw hx hs hb
              obtain ⟨_, s19, rfl⟩ := hs 2 19 (by kernel_rfl) (by kernel_rfl)
              have c0 := hx.keeps _ _ C1.out
              refine .inl ⟨wanted_free rfl, fun K hK => ?_⟩
              clear hs hb hx
              go_simp
              exact hK _ _ rfl (Ext.refl _)
            · intro fa fw hx hs hb
              have s1 : fa.tmps[(1 : Nat)]? = some (.slice (some ⟨b2, o2, none⟩) n d) := (hb 1 (by kernel_rfl)).trans (by rfl)
              refine .inl ⟨wanted_free rfl, fun K hK => ?_⟩
              clear hs hb hx
              go_simp
              exact hK _ _ rfl (Ext.refl _)
            · intro fa fw hx hs hb
              have s5 : fa.tmps[(5 : Nat)]? = some (.int .i64 k) := (hb 5 (by kernel_rfl)).trans (by rfl)
              refine .inl ⟨wanted_free rfl, fun K hK => ?_⟩
              clear hs hb hx
              go_simp
              exact hK _ _ rfl (Ext.refl _)
            · intro fa fw hx hs hb
              obtain ⟨_, s21, rfl⟩ := hs 4 21 (by kernel_rfl) (by kernel_rfl)
              obtain ⟨_, s22, rfl⟩ := hs 5 22 (by kernel_rfl) (by kernel_rfl)
              refine .inl ⟨wanted_free rfl, fun K hK => ?_⟩
              clear hs hb hx
              go_simp
              exact hK _ _ rfl (Ext.refl _)
            · intro fa fw hx hs hb
              obtain ⟨_, s23, rfl⟩ := hs 6 23 (by kernel_rfl) (by kernel_rfl)
              have c0 := hx.keeps _ _ C2.out
              refine .inl ⟨wanted_free rfl, fun K hK => ?_⟩
              clear hs hb hx
              go_simp
              exact hK _ _ rfl (Ext.refl _)
            · intro fa fw hx hs hb
              obtain ⟨_, s20, rfl⟩ := hs 3 20 (by kernel_rfl) (by kernel_rfl)
              obtain ⟨_, s24, rfl⟩ := hs 7 24 (by kernel_rfl) (by kernel_rfl)
              refine .inl ⟨wanted_free rfl, fun K hK => ?_⟩
              clear hs hb
              go_simp
              refine (sameInts_any A1' A2 x.length x.length c1 c2 x x fw (S1.out.keep hx.keeps) (S2.out.keep hx.keeps) L1.out L2.out).mono ?_
              rintro e w' ⟨rfl, mm, rfl⟩; rw [decide_eq_true rfl]
              exact hK _ _ rfl ((Ext.refl _).drewN _)
            · intro fa fw hx hs hb
              obtain ⟨_, s25, rfl⟩ := hs 8 25 (by kernel_rfl) (by kernel_rfl)
              refine .inl ⟨wanted_free rfl, fun K hK => ?_⟩
              clear hs hb hx
              go_simp
              exact hK _ _ rfl (Ext.refl _)
          case rest =>
            intro w2 hxw2
            rintro _ rfl
            rintro _ rfl
            rintro _ rfl
            rintro _ rfl
            rintro _ rfl
            rintro _ rfl
            rintro _ rfl
            rintro _ rfl
            rintro _ rfl
            rintro _ rfl
            simp only [putAll, List.take, Act.put, List.setIfInBounds_toArray, List.set_cons_zero, List.set_cons_succ]
            refine wpAny_done (by kernel_rfl) ?_ _
            go_wp2
            go_roundw
            case rel => exact ⟨k + 1, by omega, by go_num, HE.out.trans hxw2, by have := HR.out; simpa using this⟩
            case measure => simp [intOf]; omega
        · have HXY := Lib.hid hxy; clear hxy
          go_wp2_with fail
          refine wp_flow3 10 0 [isV (.slice (some ⟨b1, o1, none⟩) n c), isV (.int .i64 k), isV (.pointer (some ⟨b1, o1 + k, none⟩)), isV (.slice A1' x.length c1), isV (.slice (some ⟨b2, o2, none⟩) n d), isV (.int .i64 k), isV (.pointer (some ⟨b2, o2 + k, none⟩)), isV (.slice A2 y.length c2), isV (.bool false), isV (.bool true)] (by kernel_rfl) rfl rfl (by kernel_rfl) (by kernel_rfl) ⟨isV_mono, isV_mono, isV_mono, isV_mono, isV_mono, isV_mono, isV_mono, isV_mono, isV_mono, isV_mono, trivial⟩ ?each ?rest
          case each =>
            refine .cons ?_ (.cons ?_ (.cons ?_ (.cons ?_ (.cons ?_ (.cons ?_ (.cons ?_ (.cons ?_ (.cons ?_ (.cons ?_ (.nil))))))))))
            · intro fa fw hx hs hb
              have s0 : fa.tmps[(0 : Nat)]? = some (.slice (some ⟨b1, o1, none⟩) n c) := (hb 0 (by kernel_rfl)).trans (by rfl)
              refine .inl ⟨wanted_free rfl, fun K hK => ?_⟩
              clear hs hb hx
              go_simp
              exact hK _ _ rfl (Ext.refl _)
            · intro fa fw hx hs hb
              have s5 : fa.tmps[(5 : Nat)]? = some (.int .i64 k) := (hb 5 (by kernel_rfl)).trans (by rfl)
              refine .inl ⟨wanted_free rfl, fun K hK => ?_⟩
              clear hs hb hx
              go_simp
              exact hK _ _ rfl (Ext.refl _)
            · intro fa fw hx hs hb
              obtain ⟨_, s17, rfl⟩ := hs 0 17 (by kernel_rfl) (by kernel_rfl)
              obtain ⟨_, s18, rfl⟩ := hs 1 18 (by kernel_rfl) (by kernel_rfl)
              refine .inl ⟨wanted_free rfl, fun K hK => ?_⟩
              clear hs hb hx
              go_simp
              exact hK _ _ rfl (Ext.refl _)
            · intro fa fw hx hs hb
              obtain ⟨_, s19, rfl⟩ := hs 2 19 (by kernel_rfl) (by kernel_rfl)
              have c0 := hx.keeps _ _ C1.out
              refine .inl ⟨wanted_free rfl, fun K hK => ?_⟩
              clear hs hb hx
              go_simp
              exact hK _ _ rfl (Ext.refl _)
            · intro fa fw hx hs hb
              have s1 : fa.tmps[(1 : Nat)]? = some (.slice (some ⟨b2, o2, none⟩) n d) := (hb 1 (by kernel_rfl)).trans (by rfl)
              refine .inl ⟨wanted_free rfl, fun K hK => ?_⟩
              clear hs hb hx
              go_simp
              exact hK _ _ rfl (Ext.refl _)
            · intro fa fw hx hs hb
              have s5 : fa.tmps[(5 : Nat)]? = some (.int .i64 k) := (hb 5 (by kernel_rfl)).trans (by rfl)
              refine .inl ⟨wanted_free rfl, fun K hK => ?_⟩
              clear hs hb hx
              go_simp
              exact hK _ _ rfl (Ext.refl _)
            · intro fa fw hx hs hb
              obtain ⟨_, s21, rfl⟩ := hs 4 21 (by kernel_rfl) (by kernel_rfl)
              obtain ⟨_, s22, rfl⟩ := hs 5 22 (by kernel_rfl) (by kernel_rfl)
              refine .inl ⟨wanted_free rfl, fun K hK => ?_⟩
              clear hs hb hx
              go_simp
              exact hK _ _ rfl (Ext.refl _)
            · intro fa fw hx hs hb
              obtain ⟨_, s23, rfl⟩ := hs 6 23 (by kernel_rfl) (by kernel_rfl)
              have c0 := hx.keeps _ _ C2.out
              refine .inl ⟨wanted_free rfl, fun K hK => ?_⟩
              clear hs hb hx
              go_simp
              exact hK _ _ rfl (Ext.refl _)
            · intro fa fw hx hs hb
              obtain ⟨_, s20, rfl⟩ := hs 3 20 (by kernel_rfl) (by kernel_rfl)
              obtain ⟨_, s24, rfl⟩ := hs 7 24 (by kernel_rfl) (by kernel_rfl)
              refine .inl ⟨wanted_free rfl, fun K hK => ?_⟩
              clear hs hb
              go_simp
              refine (sameInts_any A1' A2 x.length y.length c1 c2 x y fw (S1.out.keep hx.keeps) (S2.out.keep hx.keeps) L1.out L2.out).mono ?_
              rintro e w' ⟨rfl, mm, rfl⟩; rw [decide_eq_false HXY.out]
              exact hK _ _ rfl ((Ext.refl _).drewN _)
            · intro fa fw hx hs hb
              obtain ⟨_, s25, rfl⟩ := hs 8 25 (by kernel_rfl) (by kernel_rfl)
              refine .inl ⟨wanted_free rfl, fun K hK => ?_⟩
              clear hs hb hx
              go_simp
              exact hK _ _ rfl (Ext.refl _)
          case rest =>
            intro w2 hxw2
            rintro _ rfl
            rintro _ rfl
            rintro _ rfl
            rintro _ rfl
            rintro _ rfl
            rintro _ rfl
            rintro _ rfl
            rintro _ rfl
            rintro _ rfl
            rintro _ rfl
            simp only [putAll, List.take, Act.put, List.setIfInBounds_toArray, List.set_cons_zero, List.set_cons_succ]
            refine wpAny_done (by kernel_rfl) ?_ _
            go_wp2
            go_ret
            exact ⟨ret_bool (by rw [← HR.out]; simp [HXY.out]), HE.out.trans hxw2⟩
      · have hkn : k = n := by omega
        rw [List.drop_eq_nil_of_le (by omega), List.drop_eq_nil_of_le (by omega)] at hR
        have HR := Lib.hid hR; clear hR
        go_wp2
        go_ret
        exact ⟨ret_bool (by rw [← HR.out]; simp), hext⟩
  · have hne : ((n : Int) != (m : Int)) = true := by simp; omega
    have hxy : M = false := by rw [← HM.out]; simp; intro e; rw [e] at hxl; omega
    have HF := Lib.hid hxy; clear hxy
    go_enter Try.func51, Try.ntmps51
    go_wp2
    go_ret
    exact ⟨ret_bool HF.out.symm, Ext.refl _⟩
end Go.Proofs.Ytjagbnaacfhokaa

