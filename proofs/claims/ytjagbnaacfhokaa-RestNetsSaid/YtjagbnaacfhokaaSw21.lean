/- SameNets of two nets that read the same. -/
import Derived.Test.YtjagbnaacfhokaaSw01
import Derived.Test.YtjagbnaacfhokaaSw11
import Derived.Test.YtjagbnaacfhokaaSw20
import Derived.Test.YtjagbnaacfhokaaSw16
import Derived.Test.YtjagbnaacfhokaaSw08
namespace Go.Proofs.Ytjagbnaacfhokaa
set_option linter.unusedVariables false
set_option linter.unusedSimpArgs false
open Go.RowKit

section
variable (i : Int) (gn rn on : Nat) (GA : Option Addr) (gc : Nat) (RA : Option Addr) (rc : Nat) (OA : Option Addr) (oc : Nat) (GB : Option Addr) (gd : Nat) (RC : Option Addr) (rd : Nat) (OB : Option Addr) (od : Nat) (N : NetM) (w : World)
set_option maxRecDepth 100000 in
set_option maxHeartbeats 8000000 in
theorem sameNets_eq (h : NetC w i GA gn gc RA rn rc OA on oc N) (k : NetC w i GB gn gd RC rn rd OB on od N) :
    Calls Try.prog 65 #[netV i GA gn gc RA rn rc OA on oc, netV i GB gn gd RC rn rd OB on od] w fun e w' => e = .returned (.bool true) ∧ Ext w w' := by
  obtain ⟨W0, hW0⟩ : ∃ W, W = w.alloc (.cells #[I i, .slice GA gn gc, .slice RA rn rc, .slice OA on oc] 26) := ⟨_, rfl⟩
  have hx0 : Ext w W0 := by rw [hW0]; exact (Ext.refl _).alloc _
  obtain ⟨W, hW⟩ : ∃ W, W = W0.alloc (.cells #[I i, .slice GB gn gd, .slice RC rn rd, .slice OB on od] 26) := ⟨_, rfl⟩
  have hx1 : Ext W0 W := by rw [hW]; exact (Ext.refl _).alloc _
  have hs0 : W0.heap.size = w.heap.size + 1 := by rw [hW0]; simp
  have hb1 : NetBox W w.heap.size i GA gn gc RA rn rc OA on oc := by
    have : NetBox W0 w.heap.size i GA gn gc RA rn rc OA on oc := by rw [hW0]; exact NetBox.new w i GA gn gc RA rn rc OA on oc _
    exact this.keep hx1.keeps
  have hb2 : NetBox W (w.heap.size + 1) i GB gn gd RC rn rd OB on od := by rw [← hs0, hW]; exact NetBox.new W0 i GB gn gd RC rn rd OB on od _
  have HN := Lib.hid (h.keep (hx0.trans hx1).keeps); have HK := Lib.hid (k.keep (hx0.trans hx1).keeps); have HX := Lib.hid (hx0.trans hx1); have HB1 := Lib.hid hb1; have HB2 := Lib.hid hb2
  have HW : Hid (W = (w.alloc (.cells #[I i, .slice GA gn gc, .slice RA rn rc, .slice OA on oc] 26)).alloc (.cells #[I i, .slice GB gn gd, .slice RC rn rd, .slice OB on od] 26)) := by unfold Hid; rw [hW, hW0]
  have hgm : gn ≤ 9223372036854775807 := by have := h.gl; unfold maxLen at this; omega
  have hrm : rn ≤ 9223372036854775807 := by have := h.rl; unfold maxLen at this; omega
  have hom : on ≤ maxLen := Nat.le_trans h.ol.1 h.ol.2
  clear h k hW0 hx0 hW hx1 hs0 hb1 hb2
  go_enter Try.func65, Try.ntmps65
  go_wp2_with fail
  rw [← HW.out]
  refine (sameInts_any OA OB on on oc od N.outs N.outs W HN.out.outs HK.out.outs hom hom).mono ?_; rintro e w1 ⟨rfl, q, rfl⟩
  rw [decide_eq_true (rfl : N.outs = N.outs)]
  obtain ⟨w1, hw1⟩ : ∃ w1, w1 = W.drewN q := ⟨_, rfl⟩
  have hx1 : Ext W w1 := by rw [hw1]; exact (Ext.refl W).drewN q
  rw [← hw1]
  have X1 := Lib.hid hx1
  clear hw1 hx1
  obtain ⟨-, b1, -, -⟩ := HB1.out.keep X1.out.keeps
  go_wp2_with fail
  clear b1
  go_loopw [5] (fun j wr => ∃ (k : Nat), k ≤ gn ∧ j = .int .i64 k ∧ Ext W wr) (fun j _ => gn - (intOf j).toNat)
  case atStart => exact ⟨0, Nat.zero_le _, rfl, X1.out⟩
  case round =>
    obtain ⟨k, hk, rfl, hext⟩ := hrel
    obtain ⟨-, b1, -, -⟩ := HB1.out.keep hext.keeps
    by_cases hlt : k < gn
    · obtain ⟨b, off, A1, n1, e1, g, rfl, c0, c1, c2, s1, l1, l2, -, hg⟩ := (HN.out.keep hext.keeps).gates.next hlt
      obtain ⟨b', off', A2, n2, e2, g', rfl, d0, d1, d2, s2, -, -, -, hg'⟩ := (HK.out.keep hext.keeps).gates.next hlt
      obtain rfl : g = g' := by rw [hg] at hg'; exact Option.some.inj hg'
      obtain rfl : n1 = n2 := by have := s1.len; have := s2.len; omega
      obtain ⟨-, bb1, -, -⟩ := HB2.out.keep hext.keeps
      have hsi : ∀ Q, Ext wr Q → Calls Try.prog 33 #[.slice A1 n1 e1, .slice A2 n1 e2] Q fun e w' => e = .returned (.bool true) ∧ Ext Q w' := fun Q hQ =>
        (sameInts_any A1 A2 n1 n1 e1 e2 g.args g.args Q (s1.keep hQ.keeps) (s2.keep hQ.keeps) (Nat.le_trans l1 l2) (Nat.le_trans l1 l2)).mono fun e w' ⟨he, m, hm⟩ => ⟨by rw [he]; simp, by rw [hm]; exact (Ext.refl Q).drewN m⟩
      have SI := Lib.hid hsi; have HE := Lib.hid hext; have C0 := Lib.hid c0; have C1 := Lib.hid c1; have C2 := Lib.hid c2; have D0 := Lib.hid d0; have D1 := Lib.hid d1; have D2 := Lib.hid d2; have B1 := Lib.hid b1; have BB1 := Lib.hid bb1
      clear hsi hext c0 c1 c2 d0 d1 d2 s1 s2 l1 l2 hg bb1
      go_wp2_with fail
      clear b1
      refine wp_flow3 44 0 [isV (.pointer (some ⟨w.heap.size, 1, none⟩)), isV (.slice (some ⟨b, off, none⟩) gn gc), isV (.int .i64 k), isV (.pointer (some ⟨b, off + k * 3, none⟩)), isV (.pointer (some ⟨b, off + k * 3, none⟩)), isV (I g.kind), isV (.pointer (some ⟨w.heap.size + 1, 1, none⟩)), isV (.slice (some ⟨b', off', none⟩) gn gd), isV (.int .i64 k), isV (.pointer (some ⟨b', off' + k * 3, none⟩)), isV (.pointer (some ⟨b', off' + k * 3, none⟩)), isV (I g.kind), isV (.bool false), isV (.bool false), isV (.pointer (some ⟨w.heap.size, 1, none⟩)), isV (.slice (some ⟨b, off, none⟩) gn gc), isV (.int .i64 k), isV (.pointer (some ⟨b, off + k * 3, none⟩)), isV (.pointer (some ⟨b, off + k * 3 + 1, none⟩)), isV (I g.num), isV (.pointer (some ⟨w.heap.size + 1, 1, none⟩)), isV (.slice (some ⟨b', off', none⟩) gn gd), isV (.int .i64 k), isV (.pointer (some ⟨b', off' + k * 3, none⟩)), isV (.pointer (some ⟨b', off' + k * 3 + 1, none⟩)), isV (I g.num), isV (.bool false), isV (.bool false), isV (.bool false), isV (.pointer (some ⟨w.heap.size, 1, none⟩)), isV (.slice (some ⟨b, off, none⟩) gn gc), isV (.int .i64 k), isV (.pointer (some ⟨b, off + k * 3, none⟩)), isV (.pointer (some ⟨b, off + k * 3 + 2, none⟩)), isV (.slice A1 n1 e1), isV (.pointer (some ⟨w.heap.size + 1, 1, none⟩)), isV (.slice (some ⟨b', off', none⟩) gn gd), isV (.int .i64 k), isV (.pointer (some ⟨b', off' + k * 3, none⟩)), isV (.pointer (some ⟨b', off' + k * 3 + 2, none⟩)), isV (.slice A2 n1 e2), isV (.bool true), isV (.bool false), isV (.bool false)] (by kernel_rfl) rfl rfl (by kernel_rfl) (by kernel_rfl) ⟨isV_mono, isV_mono, isV_mono, isV_mono, isV_mono, isV_mono, isV_mono, isV_mono, isV_mono, isV_mono, isV_mono, isV_mono, isV_mono, isV_mono, isV_mono, isV_mono, isV_mono, isV_mono, isV_mono, isV_mono, isV_mono, isV_mono, isV_mono, isV_mono, isV_mono, isV_mono, isV_mono, isV_mono, isV_mono, isV_mono, isV_mono, isV_mono, isV_mono, isV_mono, isV_mono, isV_mono, isV_mono, isV_mono, isV_mono, isV_mono, isV_mono, isV_mono, isV_mono, isV_mono, trivial⟩ ?each ?rest
      case each =>
        refine .cons ?_ (.cons ?_ (.cons ?_ (.cons ?_ (.cons ?_ (.cons ?_ (.cons ?_ (.cons ?_ (.cons ?_ (.cons ?_ (.cons ?_ (.cons ?_ (.cons ?_ (.cons ?_ (.cons ?_ (.cons ?_ (.cons ?_ (.cons ?_ (.cons ?_ (.cons ?_ (.cons ?_ (.cons ?_ (.cons ?_ (.cons ?_ (.cons ?_ (.cons ?_ (.cons ?_ (.cons ?_ (.cons ?_ (.cons ?_ (.cons ?_ (.cons ?_ (.cons ?_ (.cons ?_ (.cons ?_ (.cons ?_ (.cons ?_ (.cons ?_ (.cons ?_ (.cons ?_ (.cons ?_ (.cons ?_ (.cons ?_ (.cons ?_ (.nil))))))))))))))))))))))))))))))))))))))))))))
        · intro fa fw hx hs hb
          have s2 : fa.tmps[(2 : Nat)]? = some (.pointer (some ⟨w.heap.size, 0, none⟩)) := (hb 2 (by kernel_rfl)).trans (by rfl)
          refine .inl ⟨wanted_free rfl, fun K hK => ?_⟩
          clear hs hb hx
          go_simp
          exact hK _ _ rfl (Ext.refl _)
        · intro fa fw hx hs hb
          obtain ⟨_, s45, rfl⟩ := hs 0 45 (by kernel_rfl) (by kernel_rfl)
          have c0 := hx.keeps _ _ B1.out
          refine .inl ⟨wanted_free rfl, fun K hK => ?_⟩
          clear hs hb hx
          go_simp
          exact hK _ _ rfl (Ext.refl _)
        · intro fa fw hx hs hb
          have s5 : fa.tmps[(5 : Nat)]? = some (.int .i64 k) := (hb 5 (by kernel_rfl)).trans (by rfl)
          refine .inl ⟨wanted_free rfl, fun K hK => ?_⟩
          clear hs hb hx
          go_simp
          exact hK _ _ rfl (Ext.refl _)
        · intro fa fw hx hs hb
          obtain ⟨_, s46, rfl⟩ := hs 1 46 (by kernel_rfl) (by kernel_rfl)
          obtain ⟨_, s47, rfl⟩ := hs 2 47 (by kernel_rfl) (by kernel_rfl)
          refine .inl ⟨wanted_free rfl, fun K hK => ?_⟩
          clear hs hb hx
          go_simp
          exact hK _ _ rfl (Ext.refl _)
        · intro fa fw hx hs hb
          obtain ⟨_, s48, rfl⟩ := hs 3 48 (by kernel_rfl) (by kernel_rfl)
          refine .inl ⟨wanted_free rfl, fun K hK => ?_⟩
          clear hs hb hx
          go_simp
          exact hK _ _ rfl (Ext.refl _)
        · intro fa fw hx hs hb
          obtain ⟨_, s49, rfl⟩ := hs 4 49 (by kernel_rfl) (by kernel_rfl)
          have c0 := hx.keeps _ _ C0.out
          refine .inl ⟨wanted_free rfl, fun K hK => ?_⟩
          clear hs hb hx
          go_simp
          exact hK _ _ rfl (Ext.refl _)
        · intro fa fw hx hs hb
          have s3 : fa.tmps[(3 : Nat)]? = some (.pointer (some ⟨w.heap.size + 1, 0, none⟩)) := (hb 3 (by kernel_rfl)).trans (by rfl)
          refine .inl ⟨wanted_free rfl, fun K hK => ?_⟩
          clear hs hb hx
          go_simp
          exact hK _ _ rfl (Ext.refl _)
        · intro fa fw hx hs hb
          obtain ⟨_, s51, rfl⟩ := hs 6 51 (by kernel_rfl) (by kernel_rfl)
          have c0 := hx.keeps _ _ BB1.out
          refine .inl ⟨wanted_free rfl, fun K hK => ?_⟩
          clear hs hb hx
          go_simp
          exact hK _ _ rfl (Ext.refl _)
        · intro fa fw hx hs hb
          have s5 : fa.tmps[(5 : Nat)]? = some (.int .i64 k) := (hb 5 (by kernel_rfl)).trans (by rfl)
          refine .inl ⟨wanted_free rfl, fun K hK => ?_⟩
          clear hs hb hx
          go_simp
          exact hK _ _ rfl (Ext.refl _)
        · intro fa fw hx hs hb
          obtain ⟨_, s52, rfl⟩ := hs 7 52 (by kernel_rfl) (by kernel_rfl)
          obtain ⟨_, s53, rfl⟩ := hs 8 53 (by kernel_rfl) (by kernel_rfl)
          refine .inl ⟨wanted_free rfl, fun K hK => ?_⟩
          clear hs hb hx
          go_simp
          exact hK _ _ rfl (Ext.refl _)
        · intro fa fw hx hs hb
          obtain ⟨_, s54, rfl⟩ := hs 9 54 (by kernel_rfl) (by kernel_rfl)
          refine .inl ⟨wanted_free rfl, fun K hK => ?_⟩
          clear hs hb hx
          go_simp
          exact hK _ _ rfl (Ext.refl _)
        · intro fa fw hx hs hb
          obtain ⟨_, s55, rfl⟩ := hs 10 55 (by kernel_rfl) (by kernel_rfl)
          have c0 := hx.keeps _ _ D0.out
          refine .inl ⟨wanted_free rfl, fun K hK => ?_⟩
          clear hs hb hx
          go_simp
          exact hK _ _ rfl (Ext.refl _)
        · intro fa fw hx hs hb
          obtain ⟨_, s50, rfl⟩ := hs 5 50 (by kernel_rfl) (by kernel_rfl)
          obtain ⟨_, s56, rfl⟩ := hs 11 56 (by kernel_rfl) (by kernel_rfl)
          refine .inl ⟨wanted_free rfl, fun K hK => ?_⟩
          clear hs hb hx
          go_simp
          exact hK _ _ rfl (Ext.refl _)
        · intro fa fw hx hs hb
          obtain ⟨_, s57, rfl⟩ := hs 12 57 (by kernel_rfl) (by kernel_rfl)
          refine .inl ⟨wanted_free rfl, fun K hK => ?_⟩
          clear hs hb hx
          go_simp
          exact hK _ _ rfl (Ext.refl _)
        · intro fa fw hx hs hb
          obtain ⟨_, s58, rfl⟩ := hs 13 58 (by kernel_rfl) (by kernel_rfl)
          have s2 : fa.tmps[(2 : Nat)]? = some (.pointer (some ⟨w.heap.size, 0, none⟩)) := (hb 2 (by kernel_rfl)).trans (by rfl)
          refine .inl ⟨wanted_yes 13 false 58 rfl (by kernel_rfl) s58, fun K hK => ?_⟩
          clear hs hb hx
          go_simp
          exact hK _ _ rfl (Ext.refl _)
        · intro fa fw hx hs hb
          obtain ⟨_, s58, rfl⟩ := hs 13 58 (by kernel_rfl) (by kernel_rfl)
          obtain ⟨_, s59, rfl⟩ := hs 14 59 (by kernel_rfl) (by kernel_rfl)
          have c0 := hx.keeps _ _ B1.out
          refine .inl ⟨wanted_yes 13 false 58 rfl (by kernel_rfl) s58, fun K hK => ?_⟩
          clear hs hb hx
          go_simp
          exact hK _ _ rfl (Ext.refl _)
        · intro fa fw hx hs hb
          obtain ⟨_, s58, rfl⟩ := hs 13 58 (by kernel_rfl) (by kernel_rfl)
          have s5 : fa.tmps[(5 : Nat)]? = some (.int .i64 k) := (hb 5 (by kernel_rfl)).trans (by rfl)
          refine .inl ⟨wanted_yes 13 false 58 rfl (by kernel_rfl) s58, fun K hK => ?_⟩
          clear hs hb hx
          go_simp
          exact hK _ _ rfl (Ext.refl _)
        · intro fa fw hx hs hb
          obtain ⟨_, s58, rfl⟩ := hs 13 58 (by kernel_rfl) (by kernel_rfl)
          obtain ⟨_, s60, rfl⟩ := hs 15 60 (by kernel_rfl) (by kernel_rfl)
          obtain ⟨_, s61, rfl⟩ := hs 16 61 (by kernel_rfl) (by kernel_rfl)
          refine .inl ⟨wanted_yes 13 false 58 rfl (by kernel_rfl) s58, fun K hK => ?_⟩
          clear hs hb hx
          go_simp
          exact hK _ _ rfl (Ext.refl _)
        · intro fa fw hx hs hb
          obtain ⟨_, s58, rfl⟩ := hs 13 58 (by kernel_rfl) (by kernel_rfl)
          obtain ⟨_, s62, rfl⟩ := hs 17 62 (by kernel_rfl) (by kernel_rfl)
          refine .inl ⟨wanted_yes 13 false 58 rfl (by kernel_rfl) s58, fun K hK => ?_⟩
          clear hs hb hx
          go_simp
          exact hK _ _ rfl (Ext.refl _)
        · intro fa fw hx hs hb
          obtain ⟨_, s58, rfl⟩ := hs 13 58 (by kernel_rfl) (by kernel_rfl)
          obtain ⟨_, s63, rfl⟩ := hs 18 63 (by kernel_rfl) (by kernel_rfl)
          have c0 := hx.keeps _ _ C1.out
          refine .inl ⟨wanted_yes 13 false 58 rfl (by kernel_rfl) s58, fun K hK => ?_⟩
          clear hs hb hx
          go_simp
          exact hK _ _ rfl (Ext.refl _)
        · intro fa fw hx hs hb
          obtain ⟨_, s58, rfl⟩ := hs 13 58 (by kernel_rfl) (by kernel_rfl)
          have s3 : fa.tmps[(3 : Nat)]? = some (.pointer (some ⟨w.heap.size + 1, 0, none⟩)) := (hb 3 (by kernel_rfl)).trans (by rfl)
          refine .inl ⟨wanted_yes 13 false 58 rfl (by kernel_rfl) s58, fun K hK => ?_⟩
          clear hs hb hx
          go_simp
          exact hK _ _ rfl (Ext.refl _)
        · intro fa fw hx hs hb
          obtain ⟨_, s58, rfl⟩ := hs 13 58 (by kernel_rfl) (by kernel_rfl)
          obtain ⟨_, s65, rfl⟩ := hs 20 65 (by kernel_rfl) (by kernel_rfl)
          have c0 := hx.keeps _ _ BB1.out
          refine .inl ⟨wanted_yes 13 false 58 rfl (by kernel_rfl) s58, fun K hK => ?_⟩
          clear hs hb hx
          go_simp
          exact hK _ _ rfl (Ext.refl _)
        · intro fa fw hx hs hb
          obtain ⟨_, s58, rfl⟩ := hs 13 58 (by kernel_rfl) (by kernel_rfl)
          have s5 : fa.tmps[(5 : Nat)]? = some (.int .i64 k) := (hb 5 (by kernel_rfl)).trans (by rfl)
          refine .inl ⟨wanted_yes 13 false 58 rfl (by kernel_rfl) s58, fun K hK => ?_⟩
          clear hs hb hx
          go_simp
          exact hK _ _ rfl (Ext.refl _)
        · intro fa fw hx hs hb
          obtain ⟨_, s58, rfl⟩ := hs 13 58 (by kernel_rfl) (by kernel_rfl)
          obtain ⟨_, s66, rfl⟩ := hs 21 66 (by kernel_rfl) (by kernel_rfl)
          obtain ⟨_, s67, rfl⟩ := hs 22 67 (by kernel_rfl) (by kernel_rfl)
          refine .inl ⟨wanted_yes 13 false 58 rfl (by kernel_rfl) s58, fun K hK => ?_⟩
          clear hs hb hx
          go_simp
          exact hK _ _ rfl (Ext.refl _)
        · intro fa fw hx hs hb
          obtain ⟨_, s58, rfl⟩ := hs 13 58 (by kernel_rfl) (by kernel_rfl)
          obtain ⟨_, s68, rfl⟩ := hs 23 68 (by kernel_rfl) (by kernel_rfl)
          refine .inl ⟨wanted_yes 13 false 58 rfl (by kernel_rfl) s58, fun K hK => ?_⟩
          clear hs hb hx
          go_simp
          exact hK _ _ rfl (Ext.refl _)
        · intro fa fw hx hs hb
          obtain ⟨_, s58, rfl⟩ := hs 13 58 (by kernel_rfl) (by kernel_rfl)
          obtain ⟨_, s69, rfl⟩ := hs 24 69 (by kernel_rfl) (by kernel_rfl)
          have c0 := hx.keeps _ _ D1.out
          refine .inl ⟨wanted_yes 13 false 58 rfl (by kernel_rfl) s58, fun K hK => ?_⟩
          clear hs hb hx
          go_simp
          exact hK _ _ rfl (Ext.refl _)
        · intro fa fw hx hs hb
          obtain ⟨_, s58, rfl⟩ := hs 13 58 (by kernel_rfl) (by kernel_rfl)
          obtain ⟨_, s64, rfl⟩ := hs 19 64 (by kernel_rfl) (by kernel_rfl)
          obtain ⟨_, s70, rfl⟩ := hs 25 70 (by kernel_rfl) (by kernel_rfl)
          refine .inl ⟨wanted_yes 13 false 58 rfl (by kernel_rfl) s58, fun K hK => ?_⟩
          clear hs hb hx
          go_simp
          exact hK _ _ rfl (Ext.refl _)
        · intro fa fw hx hs hb
          obtain ⟨_, s58, rfl⟩ := hs 13 58 (by kernel_rfl) (by kernel_rfl)
          obtain ⟨_, s71, rfl⟩ := hs 26 71 (by kernel_rfl) (by kernel_rfl)
          refine .inl ⟨wanted_free rfl, fun K hK => ?_⟩
          clear hs hb hx
          go_simp
          exact hK _ _ rfl (Ext.refl _)
        · intro fa fw hx hs hb
          obtain ⟨_, s72, rfl⟩ := hs 27 72 (by kernel_rfl) (by kernel_rfl)
          refine .inl ⟨wanted_free rfl, fun K hK => ?_⟩
          clear hs hb hx
          go_simp
          exact hK _ _ rfl (Ext.refl _)
        · intro fa fw hx hs hb
          obtain ⟨_, s73, rfl⟩ := hs 28 73 (by kernel_rfl) (by kernel_rfl)
          have s2 : fa.tmps[(2 : Nat)]? = some (.pointer (some ⟨w.heap.size, 0, none⟩)) := (hb 2 (by kernel_rfl)).trans (by rfl)
          refine .inl ⟨wanted_yes 28 false 73 rfl (by kernel_rfl) s73, fun K hK => ?_⟩
          clear hs hb hx
          go_simp
          exact hK _ _ rfl (Ext.refl _)
        · intro fa fw hx hs hb
          obtain ⟨_, s73, rfl⟩ := hs 28 73 (by kernel_rfl) (by kernel_rfl)
          obtain ⟨_, s74, rfl⟩ := hs 29 74 (by kernel_rfl) (by kernel_rfl)
          have c0 := hx.keeps _ _ B1.out
          refine .inl ⟨wanted_yes 28 false 73 rfl (by kernel_rfl) s73, fun K hK => ?_⟩
          clear hs hb hx
          go_simp
          exact hK _ _ rfl (Ext.refl _)
        · intro fa fw hx hs hb
          obtain ⟨_, s73, rfl⟩ := hs 28 73 (by kernel_rfl) (by kernel_rfl)
          have s5 : fa.tmps[(5 : Nat)]? = some (.int .i64 k) := (hb 5 (by kernel_rfl)).trans (by rfl)
          refine .inl ⟨wanted_yes 28 false 73 rfl (by kernel_rfl) s73, fun K hK => ?_⟩
          clear hs hb hx
          go_simp
          exact hK _ _ rfl (Ext.refl _)
        · intro fa fw hx hs hb
          obtain ⟨_, s73, rfl⟩ := hs 28 73 (by kernel_rfl) (by kernel_rfl)
          obtain ⟨_, s75, rfl⟩ := hs 30 75 (by kernel_rfl) (by kernel_rfl)
          obtain ⟨_, s76, rfl⟩ := hs 31 76 (by kernel_rfl) (by kernel_rfl)
          refine .inl ⟨wanted_yes 28 false 73 rfl (by kernel_rfl) s73, fun K hK => ?_⟩
          clear hs hb hx
          go_simp
          exact hK _ _ rfl (Ext.refl _)
        · intro fa fw hx hs hb
          obtain ⟨_, s73, rfl⟩ := hs 28 73 (by kernel_rfl) (by kernel_rfl)
          obtain ⟨_, s77, rfl⟩ := hs 32 77 (by kernel_rfl) (by kernel_rfl)
          refine .inl ⟨wanted_yes 28 false 73 rfl (by kernel_rfl) s73, fun K hK => ?_⟩
          clear hs hb hx
          go_simp
          exact hK _ _ rfl (Ext.refl _)
        · intro fa fw hx hs hb
          obtain ⟨_, s73, rfl⟩ := hs 28 73 (by kernel_rfl) (by kernel_rfl)
          obtain ⟨_, s78, rfl⟩ := hs 33 78 (by kernel_rfl) (by kernel_rfl)
          have c0 := hx.keeps _ _ C2.out
          refine .inl ⟨wanted_yes 28 false 73 rfl (by kernel_rfl) s73, fun K hK => ?_⟩
          clear hs hb hx
          go_simp
          exact hK _ _ rfl (Ext.refl _)
        · intro fa fw hx hs hb
          obtain ⟨_, s73, rfl⟩ := hs 28 73 (by kernel_rfl) (by kernel_rfl)
          have s3 : fa.tmps[(3 : Nat)]? = some (.pointer (some ⟨w.heap.size + 1, 0, none⟩)) := (hb 3 (by kernel_rfl)).trans (by rfl)
          refine .inl ⟨wanted_yes 28 false 73 rfl (by kernel_rfl) s73, fun K hK => ?_⟩
          clear hs hb hx
          go_simp
          exact hK _ _ rfl (Ext.refl _)
        · intro fa fw hx hs hb
          obtain ⟨_, s73, rfl⟩ := hs 28 73 (by kernel_rfl) (by kernel_rfl)
          obtain ⟨_, s80, rfl⟩ := hs 35 80 (by kernel_rfl) (by kernel_rfl)
          have c0 := hx.keeps _ _ BB1.out
          refine .inl ⟨wanted_yes 28 false 73 rfl (by kernel_rfl) s73, fun K hK => ?_⟩
          clear hs hb hx
          go_simp
          exact hK _ _ rfl (Ext.refl _)
        · intro fa fw hx hs hb
          obtain ⟨_, s73, rfl⟩ := hs 28 73 (by kernel_rfl) (by kernel_rfl)
          have s5 : fa.tmps[(5 : Nat)]? = some (.int .i64 k) := (hb 5 (by kernel_rfl)).trans (by rfl)
          refine .inl ⟨wanted_yes 28 false 73 rfl (by kernel_rfl) s73, fun K hK => ?_⟩
          clear hs hb hx
          go_simp
          exact hK _ _ rfl (Ext.refl _)
        · intro fa fw hx hs hb
          obtain ⟨_, s73, rfl⟩ := hs 28 73 (by kernel_rfl) (by kernel_rfl)
          obtain ⟨_, s81, rfl⟩ := hs 36 81 (by kernel_rfl) (by kernel_rfl)
          obtain ⟨_, s82, rfl⟩ := hs 37 82 (by kernel_rfl) (by kernel_rfl)
          refine .inl ⟨wanted_yes 28 false 73 rfl (by kernel_rfl) s73, fun K hK => ?_⟩
          clear hs hb hx
          go_simp
          exact hK _ _ rfl (Ext.refl _)
        · intro fa fw hx hs hb
          obtain ⟨_, s73, rfl⟩ := hs 28 73 (by kernel_rfl) (by kernel_rfl)
          obtain ⟨_, s83, rfl⟩ := hs 38 83 (by kernel_rfl) (by kernel_rfl)
          refine .inl ⟨wanted_yes 28 false 73 rfl (by kernel_rfl) s73, fun K hK => ?_⟩
          clear hs hb hx
          go_simp
          exact hK _ _ rfl (Ext.refl _)
        · intro fa fw hx hs hb
          obtain ⟨_, s73, rfl⟩ := hs 28 73 (by kernel_rfl) (by kernel_rfl)
          obtain ⟨_, s84, rfl⟩ := hs 39 84 (by kernel_rfl) (by kernel_rfl)
          have c0 := hx.keeps _ _ D2.out
          refine .inl ⟨wanted_yes 28 false 73 rfl (by kernel_rfl) s73, fun K hK => ?_⟩
          clear hs hb hx
          go_simp
          exact hK _ _ rfl (Ext.refl _)
        · intro fa fw hx hs hb
          obtain ⟨_, s73, rfl⟩ := hs 28 73 (by kernel_rfl) (by kernel_rfl)
          obtain ⟨_, s79, rfl⟩ := hs 34 79 (by kernel_rfl) (by kernel_rfl)
          obtain ⟨_, s85, rfl⟩ := hs 40 85 (by kernel_rfl) (by kernel_rfl)
          refine .inl ⟨wanted_yes 28 false 73 rfl (by kernel_rfl) s73, fun K hK => ?_⟩
          clear hs hb
          go_simp
          refine (SI.out fw hx).mono ?_
          rintro e w' ⟨rfl, xq⟩
          exact hK _ _ rfl xq
        · intro fa fw hx hs hb
          obtain ⟨_, s73, rfl⟩ := hs 28 73 (by kernel_rfl) (by kernel_rfl)
          obtain ⟨_, s86, rfl⟩ := hs 41 86 (by kernel_rfl) (by kernel_rfl)
          refine .inl ⟨wanted_yes 28 false 73 rfl (by kernel_rfl) s73, fun K hK => ?_⟩
          clear hs hb hx
          go_simp
          exact hK _ _ rfl (Ext.refl _)
        · intro fa fw hx hs hb
          obtain ⟨_, s73, rfl⟩ := hs 28 73 (by kernel_rfl) (by kernel_rfl)
          obtain ⟨_, s87, rfl⟩ := hs 42 87 (by kernel_rfl) (by kernel_rfl)
          refine .inl ⟨wanted_free rfl, fun K hK => ?_⟩
          clear hs hb hx
          go_simp
          exact hK _ _ rfl (Ext.refl _)
      case rest =>
        intro w2 hxw2
        rintro _ rfl
        rintro _ rfl
        rintro _ rfl
        rintro _ rfl
        rintro _ rfl
        rintro _ rfl
        rintro _ rfl
        rintro _ rfl
        rintro _ rfl
        rintro _ rfl
        rintro _ rfl
        rintro _ rfl
        rintro _ rfl
        rintro _ rfl
        rintro _ rfl
        rintro _ rfl
        rintro _ rfl
        rintro _ rfl
        rintro _ rfl
        rintro _ rfl
        rintro _ rfl
        rintro _ rfl
        rintro _ rfl
        rintro _ rfl
        rintro _ rfl
        rintro _ rfl
        rintro _ rfl
        rintro _ rfl
        rintro _ rfl
        rintro _ rfl
        rintro _ rfl
        rintro _ rfl
        rintro _ rfl
        rintro _ rfl
        rintro _ rfl
        rintro _ rfl
        rintro _ rfl
        rintro _ rfl
        rintro _ rfl
        rintro _ rfl
        rintro _ rfl
        rintro _ rfl
        rintro _ rfl
        rintro _ rfl
        simp only [putAll, List.take, Act.put, List.setIfInBounds_toArray, List.set_cons_zero, List.set_cons_succ]
        refine wpAny_done (by kernel_rfl) ?_ _
        go_wp2
        go_roundw
        case rel => exact ⟨k + 1, by omega, by go_num, HE.out.trans hxw2⟩
        case measure => simp [intOf]; omega
    · obtain rfl : gn = k := by omega
      have HE := Lib.hid hext
      obtain ⟨-, -, b2, -⟩ := HB1.out.keep hext.keeps
      clear hext
      go_wp2_with fail
      clear b1 b2
      obtain ⟨w2, hw2⟩ : ∃ q, q = wr := ⟨_, rfl⟩
      subst hw2
      go_loopw [6] (fun j wr => ∃ (k : Nat), k ≤ rn ∧ j = .int .i64 k ∧ Ext W wr) (fun j _ => rn - (intOf j).toNat)
      case atStart => exact ⟨0, Nat.zero_le _, rfl, HE.out⟩
      case round =>
        obtain ⟨k, hk, rfl, hext⟩ := hrel
        obtain ⟨-, -, b2, -⟩ := HB1.out.keep hext.keeps
        by_cases hlt : k < rn
        · obtain ⟨b, off, r, rfl, c0, c1, -, hr⟩ := (HN.out.keep hext.keeps).regs.next hlt
          obtain ⟨b', off', r', rfl, d0, d1, -, hr'⟩ := (HK.out.keep hext.keeps).regs.next hlt
          obtain rfl : r = r' := by rw [hr] at hr'; exact Option.some.inj hr'
          obtain ⟨-, -, bb2, -⟩ := HB2.out.keep hext.keeps
          have HE2 := Lib.hid hext; have C0 := Lib.hid c0; have C1 := Lib.hid c1; have D0 := Lib.hid d0; have D1 := Lib.hid d1; have B2 := Lib.hid b2; have BB2 := Lib.hid bb2
          clear hext c0 c1 d0 d1 hr bb2
          go_wp2_with fail
          clear b2
          refine wp_flow3 11 0 [isV (.pointer (some ⟨w.heap.size, 2, none⟩)), isV (.slice (some ⟨b, off, none⟩) rn rc), isV (.int .i64 k), isV (.pointer (some ⟨b, off + k * 2, none⟩)), isV (.agg #[RB r, RN r]), isV (.pointer (some ⟨w.heap.size + 1, 2, none⟩)), isV (.slice (some ⟨b', off', none⟩) rn rd), isV (.int .i64 k), isV (.pointer (some ⟨b', off' + k * 2, none⟩)), isV (.agg #[RB r, RN r]), isV (.bool false)] (by kernel_rfl) rfl rfl (by kernel_rfl) (by kernel_rfl) ⟨isV_mono, isV_mono, isV_mono, isV_mono, isV_mono, isV_mono, isV_mono, isV_mono, isV_mono, isV_mono, isV_mono, trivial⟩ ?each ?rest
          case each =>
            refine .cons ?_ (.cons ?_ (.cons ?_ (.cons ?_ (.cons ?_ (.cons ?_ (.cons ?_ (.cons ?_ (.cons ?_ (.cons ?_ (.cons ?_ (.nil)))))))))))
            · intro fa fw hx hs hb
              have s2 : fa.tmps[(2 : Nat)]? = some (.pointer (some ⟨w.heap.size, 0, none⟩)) := (hb 2 (by kernel_rfl)).trans (by rfl)
              refine .inl ⟨wanted_free rfl, fun K hK => ?_⟩
              clear hs hb hx
              go_simp
              exact hK _ _ rfl (Ext.refl _)
            · intro fa fw hx hs hb
              obtain ⟨_, s96, rfl⟩ := hs 0 96 (by kernel_rfl) (by kernel_rfl)
              have c0 := hx.keeps _ _ B2.out
              refine .inl ⟨wanted_free rfl, fun K hK => ?_⟩
              clear hs hb hx
              go_simp
              exact hK _ _ rfl (Ext.refl _)
            · intro fa fw hx hs hb
              have s6 : fa.tmps[(6 : Nat)]? = some (.int .i64 k) := (hb 6 (by kernel_rfl)).trans (by rfl)
              refine .inl ⟨wanted_free rfl, fun K hK => ?_⟩
              clear hs hb hx
              go_simp
              exact hK _ _ rfl (Ext.refl _)
            · intro fa fw hx hs hb
              obtain ⟨_, s97, rfl⟩ := hs 1 97 (by kernel_rfl) (by kernel_rfl)
              obtain ⟨_, s98, rfl⟩ := hs 2 98 (by kernel_rfl) (by kernel_rfl)
              refine .inl ⟨wanted_free rfl, fun K hK => ?_⟩
              clear hs hb hx
              go_simp
              exact hK _ _ rfl (Ext.refl _)
            · intro fa fw hx hs hb
              obtain ⟨_, s99, rfl⟩ := hs 3 99 (by kernel_rfl) (by kernel_rfl)
              have c0 := hx.keeps _ _ C0.out
              have c1 := hx.keeps _ _ C1.out
              refine .inl ⟨wanted_free rfl, fun K hK => ?_⟩
              clear hs hb hx
              go_simp
              exact hK _ _ rfl (Ext.refl _)
            · intro fa fw hx hs hb
              have s3 : fa.tmps[(3 : Nat)]? = some (.pointer (some ⟨w.heap.size + 1, 0, none⟩)) := (hb 3 (by kernel_rfl)).trans (by rfl)
              refine .inl ⟨wanted_free rfl, fun K hK => ?_⟩
              clear hs hb hx
              go_simp
              exact hK _ _ rfl (Ext.refl _)
            · intro fa fw hx hs hb
              obtain ⟨_, s101, rfl⟩ := hs 5 101 (by kernel_rfl) (by kernel_rfl)
              have c0 := hx.keeps _ _ BB2.out
              refine .inl ⟨wanted_free rfl, fun K hK => ?_⟩
              clear hs hb hx
              go_simp
              exact hK _ _ rfl (Ext.refl _)
            · intro fa fw hx hs hb
              have s6 : fa.tmps[(6 : Nat)]? = some (.int .i64 k) := (hb 6 (by kernel_rfl)).trans (by rfl)
              refine .inl ⟨wanted_free rfl, fun K hK => ?_⟩
              clear hs hb hx
              go_simp
              exact hK _ _ rfl (Ext.refl _)
            · intro fa fw hx hs hb
              obtain ⟨_, s102, rfl⟩ := hs 6 102 (by kernel_rfl) (by kernel_rfl)
              obtain ⟨_, s103, rfl⟩ := hs 7 103 (by kernel_rfl) (by kernel_rfl)
              refine .inl ⟨wanted_free rfl, fun K hK => ?_⟩
              clear hs hb hx
              go_simp
              exact hK _ _ rfl (Ext.refl _)
            · intro fa fw hx hs hb
              obtain ⟨_, s104, rfl⟩ := hs 8 104 (by kernel_rfl) (by kernel_rfl)
              have c0 := hx.keeps _ _ D0.out
              have c1 := hx.keeps _ _ D1.out
              refine .inl ⟨wanted_free rfl, fun K hK => ?_⟩
              clear hs hb hx
              go_simp
              exact hK _ _ rfl (Ext.refl _)
            · intro fa fw hx hs hb
              obtain ⟨_, s100, rfl⟩ := hs 4 100 (by kernel_rfl) (by kernel_rfl)
              obtain ⟨_, s105, rfl⟩ := hs 9 105 (by kernel_rfl) (by kernel_rfl)
              refine .inl ⟨wanted_free rfl, fun K hK => ?_⟩
              clear hs hb
              go_simp
              exact hK _ _ rfl (Ext.refl _)
          case rest =>
            intro w3 hxw3
            rintro _ rfl
            rintro _ rfl
            rintro _ rfl
            rintro _ rfl
            rintro _ rfl
            rintro _ rfl
            rintro _ rfl
            rintro _ rfl
            rintro _ rfl
            rintro _ rfl
            rintro _ rfl
            simp only [putAll, List.take, Act.put, List.setIfInBounds_toArray, List.set_cons_zero, List.set_cons_succ]
            refine wpAny_done (by kernel_rfl) ?_ _
            go_wp2
            go_roundw
            case rel => exact ⟨k + 1, by omega, by go_num, HE2.out.trans hxw3⟩
            case measure => simp [intOf]; omega
        · obtain rfl : rn = k := by omega
          have HE2 := Lib.hid hext
          clear hext
          go_wp2
          go_ret
          exact ⟨rfl, HX.out.trans HE2.out⟩
end
/-- The same, where the two lengths and numbers are told by the readings. -/
theorem sameNets_any {i : Int} {GA : Option Addr} {gn gc : Nat} {RA : Option Addr} {rn rc : Nat} {OA : Option Addr} {on oc : Nat} {i' : Int} {GB : Option Addr} {gm gd : Nat} {RC : Option Addr} {rm rd : Nat} {OB : Option Addr} {om od : Nat} {N : NetM} {w : World}
    (h : NetC w i GA gn gc RA rn rc OA on oc N) (k : NetC w i' GB gm gd RC rm rd OB om od N) :
    Calls Try.prog 65 #[netV i GA gn gc RA rn rc OA on oc, netV i' GB gm gd RC rm rd OB om od] w fun e w' => e = .returned (.bool true) ∧ Ext w w' := by
  obtain rfl : i = i' := by rw [h.ins, k.ins]
  obtain rfl : gn = gm := by rw [← h.gates.1, ← k.gates.1]
  obtain rfl : rn = rm := by rw [← h.regs.1, ← k.regs.1]
  obtain rfl : on = om := by rw [← h.outs.len, ← k.outs.len]
  exact sameNets_eq i gn rn on GA gc RA rc OA oc GB gd RC rd OB od N w h k
end Go.Proofs.Ytjagbnaacfhokaa
/- The body of SweepTells, from the contracts. -/
namespace Go.Proofs.Ytjagbnaacfhokaa
set_option linter.unusedVariables false
set_option linter.unusedSimpArgs false
open Go.RowKit

/-- A net in a box of its own. -/
theorem netbox_new (w : World) (i : Int) (GA : Option Addr) (gn gc : Nat) (RA : Option Addr) (rn rc : Nat) (OA : Option Addr) (on oc : Nat) :
    ∃ q, q = w.alloc (.cells #[I i, .slice GA gn gc, .slice RA rn rc, .slice OA on oc] 26) ∧ Ext w q ∧ NetBox q w.heap.size i GA gn gc RA rn rc OA on oc :=
  ⟨_, rfl, (Ext.refl _).alloc _, NetBox.new w i GA gn gc RA rn rc OA on oc _⟩
theorem Box.net {w : World} {b : Nat} {i : Int} {GA : Option Addr} {gn gc : Nat} {RA : Option Addr} {rn rc : Nat} {OA : Option Addr} {on oc : Nat} (h : Box w b 26 [I i, .slice GA gn gc, .slice RA rn rc, .slice OA on oc]) : NetBox w b i GA gn gc RA rn rc OA on oc :=
  ⟨(h.cell 0).trans rfl, (h.cell 1).trans rfl, (h.cell 2).trans rfl, (h.cell 3).trans rfl⟩
/-- A net stored in a box of one's own. -/
theorem Box.storeNet {w : World} {b : Nat} {c0 c1 c2 c3 : Value} (h : Box w b 26 [c0, c1, c2, c3]) (i : Int) (GA : Option Addr) (gn gc : Nat) (RA : Option Addr) (rn rc : Nat) (OA : Option Addr) (on oc : Nat) :
    ∃ q, q = (((w.setCell ⟨b, 0, none⟩ (I i)).setCell ⟨b, 1, none⟩ (.slice GA gn gc)).setCell ⟨b, 2, none⟩ (.slice RA rn rc)).setCell ⟨b, 3, none⟩ (.slice OA on oc) ∧
      Box q b 26 [I i, .slice GA gn gc, .slice RA rn rc, .slice OA on oc] ∧ (∀ v, Ext v w → v.heap.size ≤ b → Ext v q) ∧
      (∀ base i GA gn gc RA rn rc OA on oc M vs, NetO w base i GA gn gc RA rn rc OA on oc M vs → NetO q base i GA gn gc RA rn rc OA on oc M vs) ∧
      (∀ b2 cs, b2 ≠ b → Box w b2 26 cs → Box q b2 26 cs) := by
  have s0 := h.set 0 (I i)
  have s1 := s0.set 1 (.slice GA gn gc)
  have s2 := s1.set 2 (.slice RA rn rc)
  refine ⟨_, rfl, s2.set 3 (.slice OA on oc), fun v hx hb => (((hx.setCell (p := ⟨b, 0, none⟩) hb _).setCell (p := ⟨b, 1, none⟩) hb _).setCell (p := ⟨b, 2, none⟩) hb _).setCell (p := ⟨b, 3, none⟩) hb _, ?_, ?_⟩
  · intro base i' GA' gn' gc' RA' rn' rc' OA' on' oc' M vs ho
    have ar := h.apart ho.regs (by decide); have ao := h.apart ho.outs (by decide)
    exact ⟨ho.ins, ho.gl, (((ho.gates.box h 0 _).box s0 1 _).box s1 2 _).box s2 3 _, own_set (own_set (own_set (own_set ho.regs ar _ _) ar _ _) ar _ _) ar _ _, own_set (own_set (own_set (own_set ho.outs ao _ _) ao _ _) ao _ _) ao _ _⟩
  · intro b2 cs hne hb
    have hn : some b ≠ some b2 := by simpa using fun e => hne e.symm
    exact (((hb.kept (grownBy_set w b 0 _) hn).kept (grownBy_set _ b 1 _) hn).kept (grownBy_set _ b 2 _) hn).kept (grownBy_set _ b 3 _) hn
section
variable (i : Int) (GA : Option Addr) (gn gc : Nat) (RA : Option Addr) (rn rc : Nat) (OA : Option Addr) (on oc : Nat) (N : NetM) (w : World)
set_option maxRecDepth 100000 in
set_option maxHeartbeats 8000000 in
theorem sweepTells_walk (h : NetC w i GA gn gc RA rn rc OA on oc N) (hlo : -9223372036854775808 ≤ i) :
    Calls Try.prog 20 #[netV i GA gn gc RA rn rc OA on oc] w fun e w' => e = .returned (.bool true) ∧ Ext w w' := by
  obtain ⟨W, hW, hxW, hbox⟩ := netbox_new w i GA gn gc RA rn rc OA on oc
  have HN := Lib.hid (h.keep hxW.keeps); have HBox := Lib.hid hbox; have HW := Lib.hid hW; have HX := Lib.hid hxW
  clear h hW hxW hbox
  go_enter Try.func20, Try.ntmps20
  go_wp2_with fail
  rw [← HW.out]
  refine (fold_any i GA gn gc RA rn rc OA on oc N W HN.out).mono ?_; rintro e w1 ⟨i1, GA1, gn1, gc1, RA1, rn1, rc1, OA1, on1, oc1, vs1, rfl, o1, x1⟩
  obtain ⟨wf, hwf, hxf, hbf⟩ := netbox_new w1 i1 GA1 gn1 gc1 RA1 rn1 rc1 OA1 on1 oc1
  have HF := Lib.hid (o1.netC.keep hxf.keeps); have HBF := Lib.hid hbf; have HWF := Lib.hid hwf; have XF := Lib.hid (x1.trans hxf)
  have qf := HBox.out.keep (x1.trans hxf).keeps
  rw [hwf] at qf
  obtain ⟨q0, q1, q2, q3⟩ := qf
  clear o1 x1 hwf hxf hbf
  go_wp2_with fail
  clear q0 q1 q2 q3
  rw [← HWF.out]
  refine (drop_any i GA gn gc RA rn rc OA on oc N wf (HN.out.keep XF.out.keeps)).mono ?_; rintro e w2 ⟨i2, GA2, gn2, gc2, RA2, rn2, rc2, OA2, on2, oc2, vs2, rfl, o2, x2⟩
  obtain ⟨wd, hwd, hxd, hbd⟩ := netbox_new w2 i2 GA2 gn2 gc2 RA2 rn2 rc2 OA2 on2 oc2
  have HD := Lib.hid (o2.netC.keep hxd.keeps); have HBD := Lib.hid hbd; have HWD := Lib.hid hwd
  have XD := Lib.hid (XF.out.trans (x2.trans hxd)); have HF2 := Lib.hid (HF.out.keep (x2.trans hxd).keeps); have HBF2 := Lib.hid (HBF.out.keep (x2.trans hxd).keeps)
  have qf := HBox.out.keep XD.out.keeps
  rw [hwd] at qf
  obtain ⟨q0, q1, q2, q3⟩ := qf
  clear o2 x2 hwd hxd hbd HF HBF HWF XF
  go_wp2_with fail
  clear q0 q1 q2 q3
  rw [← HWD.out]
  refine (rnet_any i GA gn gc RA rn rc OA on oc N wd (HN.out.keep XD.out.keeps) hlo).mono ?_; rintro e w3 ⟨rfl, x3⟩
  obtain ⟨wz, hwz⟩ : ∃ q, q = w3.alloc (.cells #[I 0, .slice none 0 0, .slice none 0 0, .slice none 0 0] 26) := ⟨_, rfl⟩
  have hxz : Ext w3 wz := by rw [hwz]; exact (Ext.refl _).alloc _
  have hbz : Box wz w3.heap.size 26 [I 0, .slice none 0 0, .slice none 0 0, .slice none 0 0] := by rw [hwz]; exact Box.new w3 _ _
  have hsz : wz.heap.size = w3.heap.size + 1 := by rw [hwz]; simp
  obtain ⟨wy, hwy⟩ : ∃ q, q = wz.alloc (.cells #[I 0, .slice none 0 0, .slice none 0 0, .slice none 0 0] 26) := ⟨_, rfl⟩
  have hxy : Ext wz wy := by rw [hwy]; exact (Ext.refl _).alloc _
  have hby : Box wy (w3.heap.size + 1) 26 [I 0, .slice none 0 0, .slice none 0 0, .slice none 0 0] := by rw [← hsz, hwy]; exact Box.new wz _ _
  have HWY : Hid (wy = (w3.alloc (.cells #[I 0, .slice none 0 0, .slice none 0 0, .slice none 0 0] 26)).alloc (.cells #[I 0, .slice none 0 0, .slice none 0 0, .slice none 0 0] 26)) := by unfold Hid; rw [hwy, hwz]
  have XX := hxz.trans hxy
  have XS := Lib.hid XX
  have HZ := Lib.hid (hbz.ext hxy); have HY := Lib.hid hby; have XY := Lib.hid (XD.out.trans (x3.trans XX))
  have FN := Lib.hid (HF2.out.keep x3.keeps); have FB := Lib.hid (HBF2.out.keep x3.keeps); have DN := Lib.hid (HD.out.keep x3.keeps); have DB := Lib.hid (HBD.out.keep x3.keeps)
  have X0 := Lib.hid (HX.out.trans (XD.out.trans x3))
  have hge : w.heap.size ≤ w3.heap.size := (HX.out.trans (XD.out.trans x3)).size
  have HGE := Lib.hid hge
  clear hge x3 hwz hxz hbz hsz hwy hxy hby XX HF2 HBF2 HD HBD HWD
  by_cases hc : checkN N = 0
  · have ok := checkN_ok hc
    rw [hc]
    rw [show foldR N = foldN N by unfold foldR; rw [if_pos hc]] at FN
    rw [show dropR N = dropN N by unfold dropR; rw [if_pos hc]] at DN
    have OK := Lib.hid ok
    clear hc ok
    have qb := HBox.out.keep XY.out.keeps
    have B0 : Hid (wy.cell? ⟨w.heap.size, 0, none⟩ = some (I i)) := qb.1
    have B1 : Hid (wy.cell? ⟨w.heap.size, 1, none⟩ = some (.slice GA gn gc)) := qb.2.1
    have B2 : Hid (wy.cell? ⟨w.heap.size, 2, none⟩ = some (.slice RA rn rc)) := qb.2.2.1
    have B3 : Hid (wy.cell? ⟨w.heap.size, 3, none⟩ = some (.slice OA on oc)) := qb.2.2.2
    have NN := Lib.hid (HN.out.keep XY.out.keeps)
    clear qb
    go_wp2_with fail
    rw [← HWY.out]
    clear HWY
    refine wp_flow4 4 2 [isV (.agg #[I i, .slice GA gn gc, .slice RA rn rc, .slice OA on oc]), fun v w => ∃ ix GAx gnx gcx RAx rnx rcx OAx onx ocx vs, v = netV ix GAx gnx gcx RAx rnx rcx OAx onx ocx ∧ NetO w wy.heap.size ix GAx gnx gcx RAx rnx rcx OAx onx ocx (foldN N) vs, isV (.agg #[I i, .slice GA gn gc, .slice RA rn rc, .slice OA on oc]), fun v w => ∃ ix GAx gnx gcx RAx rnx rcx OAx onx ocx vs, v = netV ix GAx gnx gcx RAx rnx rcx OAx onx ocx ∧ NetO w wy.heap.size ix GAx gnx gcx RAx rnx rcx OAx onx ocx (dropN N) vs] (by kernel_rfl) rfl rfl (by kernel_rfl) (by kernel_rfl) ⟨isV_mono, fun v w w' ⟨ix, GAx, gnx, gcx, RAx, rnx, rcx, OAx, onx, ocx, vs, e, h⟩ hx => ⟨ix, GAx, gnx, gcx, RAx, rnx, rcx, OAx, onx, ocx, vs, e, h.ext hx⟩, isV_mono, fun v w w' ⟨ix, GAx, gnx, gcx, RAx, rnx, rcx, OAx, onx, ocx, vs, e, h⟩ hx => ⟨ix, GAx, gnx, gcx, RAx, rnx, rcx, OAx, onx, ocx, vs, e, h.ext hx⟩, trivial⟩ ?each ?rest
    case each =>
      refine .cons ?_ (.cons ?_ (.cons ?_ (.cons ?_ (.nil))))
      · intro fa fw hx hs hb
        have s1 : fa.tmps[(1 : Nat)]? = some (.pointer (some ⟨w.heap.size, 0, none⟩)) := (hb 1 (by kernel_rfl)).trans (by rfl)
        have c0 := hx.keeps _ _ B0.out
        have c1 := hx.keeps _ _ B1.out
        have c2 := hx.keeps _ _ B2.out
        have c3 := hx.keeps _ _ B3.out
        refine .inl ⟨wanted_free rfl, fun K hK => ?_⟩
        clear hs hb hx
        go_simp
        exact hK _ _ rfl (Ext.refl _)
      · intro fa fw hx hs hb
        obtain ⟨_, s24, rfl⟩ := hs 0 24 (by kernel_rfl) (by kernel_rfl)
        refine .inl ⟨wanted_free rfl, fun K hK => ?_⟩
        clear hs hb
        go_simp
        refine (foldOf_any i GA gn gc RA rn rc OA on oc N fw (NN.out.keep hx.keeps) OK.out).mono ?_
        rintro e w' ⟨ix, GAx, gnx, gcx, RAx, rnx, rcx, OAx, onx, ocx, vs, rfl, ho, xq⟩
        exact hK _ _ ⟨ix, GAx, gnx, gcx, RAx, rnx, rcx, OAx, onx, ocx, vs, rfl, ho.base_le hx.size⟩ xq
      · intro fa fw hx hs hb
        have s1 : fa.tmps[(1 : Nat)]? = some (.pointer (some ⟨w.heap.size, 0, none⟩)) := (hb 1 (by kernel_rfl)).trans (by rfl)
        have c0 := hx.keeps _ _ B0.out
        have c1 := hx.keeps _ _ B1.out
        have c2 := hx.keeps _ _ B2.out
        have c3 := hx.keeps _ _ B3.out
        refine .inl ⟨wanted_free rfl, fun K hK => ?_⟩
        clear hs hb hx
        go_simp
        exact hK _ _ rfl (Ext.refl _)
      · intro fa fw hx hs hb
        obtain ⟨_, s26, rfl⟩ := hs 2 26 (by kernel_rfl) (by kernel_rfl)
        refine .inl ⟨wanted_free rfl, fun K hK => ?_⟩
        clear hs hb
        go_simp
        refine (dropOf_any i GA gn gc RA rn rc OA on oc N fw (NN.out.keep hx.keeps) OK.out).mono ?_
        rintro e w' ⟨ix, GAx, gnx, gcx, RAx, rnx, rcx, OAx, onx, ocx, vs, rfl, ho, xq⟩
        exact hK _ _ ⟨ix, GAx, gnx, gcx, RAx, rnx, rcx, OAx, onx, ocx, vs, rfl, ho.base_le hx.size⟩ xq
    case rest =>
      intro w4 hxw4
      rintro _ rfl
      rintro _ ⟨i25, GA25, gn25, gc25, RA25, rn25, rc25, OA25, on25, oc25, vs25, rfl, q25⟩
      rintro _ rfl
      rintro _ ⟨i27, GA27, gn27, gc27, RA27, rn27, rc27, OA27, on27, oc27, vs27, rfl, q27⟩
      simp only [putAll, List.take, Act.put, List.setIfInBounds_toArray, List.set_cons_zero, List.set_cons_succ]
      have hz := HZ.out.ext hxw4
      have m0 := (hz.cell 0).trans rfl; have m1 := (hz.cell 1).trans rfl; have m2 := (hz.cell 2).trans rfl; have m3 := (hz.cell 3).trans rfl
      simp only [List.getElem?_cons_zero, List.getElem?_cons_succ] at m0 m1 m2 m3
      have fz := hz.free
      obtain ⟨wp, hwp, bp, xp, op, kp⟩ := hz.storeNet i25 GA25 gn25 gc25 RA25 rn25 rc25 OA25 on25 oc25
      have XP := Lib.hid (xp w3 (XS.out.trans hxw4) (Nat.le_refl _)); have BP := Lib.hid bp
      have o25 := op _ _ _ _ _ _ _ _ _ _ _ _ _ q25; have o27 := op _ _ _ _ _ _ _ _ _ _ _ _ _ q27
      have hyp := kp _ _ (by omega) (HY.out.ext hxw4)
      have O25 := Lib.hid o25; have O27 := Lib.hid o27; have HYP := Lib.hid hyp; have HWP := Lib.hid hwp
      clear bp xp op kp hz q25 q27 o25 o27 hyp hwp hxw4 HZ HY
      refine wpAny_ready (rs := [4]) (by kernel_rfl) (by simp) (AllReady.cons rfl (fun KK hKK => ?_) AllReady.nil)
      go_simp
      refine hKK _ _ ?_
      clear hKK KK m0 m1 m2 m3 fz
      rw [← HWP.out]
      have m0 := (HYP.out.cell 0).trans rfl; have m1 := (HYP.out.cell 1).trans rfl; have m2 := (HYP.out.cell 2).trans rfl; have m3 := (HYP.out.cell 3).trans rfl
      simp only [List.getElem?_cons_zero, List.getElem?_cons_succ] at m0 m1 m2 m3
      have fz := HYP.out.free
      obtain ⟨wE, hwE, bE, xE, oE, kE⟩ := HYP.out.storeNet i27 GA27 gn27 gc27 RA27 rn27 rc27 OA27 on27 oc27
      have XE := Lib.hid (xE w3 XP.out (Nat.le_succ _)); have HYE := Lib.hid bE.net
      have HZE := Lib.hid (kE _ _ (by omega) BP.out).net
      have ZN := Lib.hid (oE _ _ _ _ _ _ _ _ _ _ _ _ _ O25.out).netC; have YN := Lib.hid (oE _ _ _ _ _ _ _ _ _ _ _ _ _ O27.out).netC
      have HWE := Lib.hid hwE
      clear bE xE oE kE hwE HYP O25 O27 BP XP HWP
      refine wpAny_ready (rs := [5]) (by kernel_rfl) (by simp) (AllReady.cons rfl (fun KK hKK => ?_) AllReady.nil)
      go_simp
      refine hKK _ _ ?_
      clear hKK KK m0 m1 m2 m3 fz
      rw [← HWE.out]
      clear HWE
      refine wpAny_done (by kernel_rfl) ?_ _
      go_wp2_with fail
      refine (sweepBegun_any wE).mono ?_; rintro e w5 ⟨rfl, x5⟩
      have XA := XE.out.trans x5
      have hz := HZE.out.keep x5.keeps; have hy := HYE.out.keep x5.keeps; have fb := FB.out.keep XA.keeps; have db := DB.out.keep XA.keeps
      obtain ⟨f0, f1, f2, f3⟩ := fb; obtain ⟨z0, z1, z2, z3⟩ := hz
      have ZN5 := Lib.hid (ZN.out.keep x5.keeps); have YN5 := Lib.hid (YN.out.keep x5.keeps); have XA5 := Lib.hid XA; have HY5 := Lib.hid hy; have DB5 := Lib.hid db
      clear XA x5 hy db ZN YN HZE HYE XE
      go_wp2_with fail
      refine (sameNets_any (FN.out.keep XA5.out.keeps) ZN5.out).mono ?_; rintro e w6 ⟨rfl, x6⟩
      obtain ⟨d0, d1, d2, d3⟩ := DB5.out.keep x6.keeps; obtain ⟨y0, y1, y2, y3⟩ := HY5.out.keep x6.keeps
      have X6 := Lib.hid (XA5.out.trans x6); have YN6 := Lib.hid (YN5.out.keep x6.keeps)
      clear f0 f1 f2 f3 z0 z1 z2 z3 x6 ZN5 YN5 HY5 DB5 XA5
      go_wp2_with fail
      refine (sameNets_any (DN.out.keep X6.out.keeps) YN6.out).mono ?_; rintro e w7 ⟨rfl, x7⟩
      have X7 := Lib.hid (X0.out.trans (X6.out.trans x7))
      clear d0 d1 d2 d3 y0 y1 y2 y3 x7
      go_wp2
      go_ret
      exact ⟨by simp, X7.out⟩
  · rw [show foldR N = zeroN by unfold foldR; rw [if_neg hc]] at FN
    rw [show dropR N = zeroN by unfold dropR; rw [if_neg hc]] at DN
    have hnz : (checkN N == 0) = false := by simpa using hc
    generalize checkN N = E at *
    obtain ⟨wE, hwE⟩ : ∃ q, q = wy := ⟨_, rfl⟩
    subst hwE
    have XE := XS; have HZE := Lib.hid HZ.out.net; have HYE := Lib.hid HY.out.net
    have ZN := Lib.hid (NetO.zero wE 0).netC; have YN := Lib.hid (NetO.zero wE 0).netC
    clear hc XS HZ HY
    go_wp2_with fail
    rw [← HWY.out]
    clear HWY
    refine (sweepBegun_any wE).mono ?_; rintro e w5 ⟨rfl, x5⟩
    have XA := XE.out.trans x5
    have hz := HZE.out.keep x5.keeps; have hy := HYE.out.keep x5.keeps; have fb := FB.out.keep XA.keeps; have db := DB.out.keep XA.keeps
    obtain ⟨f0, f1, f2, f3⟩ := fb; obtain ⟨z0, z1, z2, z3⟩ := hz
    have ZN5 := Lib.hid (ZN.out.keep x5.keeps); have YN5 := Lib.hid (YN.out.keep x5.keeps); have XA5 := Lib.hid XA; have HY5 := Lib.hid hy; have DB5 := Lib.hid db
    clear XA x5 hy db ZN YN HZE HYE XE
    go_wp2_with fail
    refine (sameNets_any (FN.out.keep XA5.out.keeps) ZN5.out).mono ?_; rintro e w6 ⟨rfl, x6⟩
    obtain ⟨d0, d1, d2, d3⟩ := DB5.out.keep x6.keeps; obtain ⟨y0, y1, y2, y3⟩ := HY5.out.keep x6.keeps
    have X6 := Lib.hid (XA5.out.trans x6); have YN6 := Lib.hid (YN5.out.keep x6.keeps)
    clear f0 f1 f2 f3 z0 z1 z2 z3 x6 ZN5 YN5 HY5 DB5 XA5
    go_wp2_with fail
    refine (sameNets_any (DN.out.keep X6.out.keeps) YN6.out).mono ?_; rintro e w7 ⟨rfl, x7⟩
    have X7 := Lib.hid (X0.out.trans (X6.out.trans x7))
    clear d0 d1 d2 d3 y0 y1 y2 y3 x7
    go_wp2
    go_ret
    exact ⟨by simp, X7.out⟩
end
end Go.Proofs.Ytjagbnaacfhokaa
/- The body of SweepFold, from the contracts. -/
namespace Go.Proofs.Ytjagbnaacfhokaa
set_option linter.unusedVariables false
set_option linter.unusedSimpArgs false
open Go.RowKit

theorem askedM_fold {N : NetM} (h : NetOK N) (regs ins : List Int) : askedM (foldN N) regs ins = askedM N regs ins := by
  unfold askedM
  rw [(foldN_ok h).check, h.check]
  rfl
theorem stepV_fold {N : NetM} (h : NetOK N) (regs ins : List Int) : stepV (foldN N) regs ins = stepV N regs ins := by
  unfold stepV
  rw [askedM_fold h]
  by_cases h0 : askedM N regs ins = 0
  · rw [if_neg (by simp [h0]), if_neg (by simp [h0])]
    have h1 : regs.length = N.regs.length ∧ (ins.length : Int) = N.ins := by
      unfold askedM at h0
      rw [h.check] at h0
      simp only [ne_eq, not_true_eq_false, if_false] at h0
      split at h0
      · cases h0
      · rename_i hh
        exact ⟨Decidable.byContradiction fun e => hh (.inl e), Decidable.byContradiction fun e => hh (.inr e)⟩
    rw [foldN_settled h1.1 (by omega)]
  · rw [if_pos h0, if_pos h0]
section
variable (i : Int) (GA : Option Addr) (gn gc : Nat) (RA : Option Addr) (rn rc : Nat) (OA : Option Addr) (on oc : Nat) (N : NetM) (RB : Option Addr) (pn pc : Nat) (IA : Option Addr) (jn jc : Nat) (regs ins : List Int) (w : World)
set_option maxRecDepth 100000 in
set_option maxHeartbeats 8000000 in
theorem sweepFold_walk (h : NetC w i GA gn gc RA rn rc OA on oc N) (hr : Sl w RB pn (regs.map I)) (hi : Sl w IA jn (ins.map I)) (hpm : pn ≤ maxLen) (hjm : jn ≤ maxLen) :
    Calls Try.prog 21 #[netV i GA gn gc RA rn rc OA on oc, .slice RB pn pc, .slice IA jn jc] w fun e w' => e = .returned (.bool true) ∧ Ext w w' := by
  obtain ⟨W, hW, hxW, hbox⟩ := netbox_new w i GA gn gc RA rn rc OA on oc
  have HN := Lib.hid (h.keep hxW.keeps); have HBox := Lib.hid hbox; have HW := Lib.hid hW; have HX := Lib.hid hxW
  have HR := Lib.hid (hr.keep hxW.keeps); have HI := Lib.hid (hi.keep hxW.keeps)
  clear h hW hxW hbox hr hi
  go_enter Try.func21, Try.ntmps21
  go_wp2_with fail
  rw [← HW.out]
  refine (fold_any i GA gn gc RA rn rc OA on oc N W HN.out).mono ?_; rintro e w1 ⟨i1, GA1, gn1, gc1, RA1, rn1, rc1, OA1, on1, oc1, vs1, rfl, o1, x1⟩
  obtain ⟨wf, hwf, hxf, hbf⟩ := netbox_new w1 i1 GA1 gn1 gc1 RA1 rn1 rc1 OA1 on1 oc1
  have HF := Lib.hid (o1.netC.keep hxf.keeps); have HBF := Lib.hid hbf; have HWF := Lib.hid hwf; have XF := Lib.hid (x1.trans hxf)
  by_cases hc : checkN N = 0
  · have ok := checkN_ok hc
    have okf := foldN_ok ok
    rw [hc]
    rw [show foldR N = foldN N by unfold foldR; rw [if_pos hc]] at HF
    have qf := HBox.out.keep (x1.trans hxf).keeps
    rw [hwf] at qf
    obtain ⟨q0, q1, q2, q3⟩ := qf
    have hst := stepV_fold ok regs ins
    have OK := Lib.hid ok; have CF := Lib.hid okf.check; have HST := Lib.hid hst
    clear o1 x1 hwf hxf hbf hc ok okf hst
    go_wp2_with fail
    clear q0 q1 q2 q3
    rw [← HWF.out]
    refine (evalStep_any i GA gn gc RA rn rc OA on oc N RB pn pc IA jn jc regs ins wf (HN.out.keep XF.out.keeps) (HR.out.keep XF.out.keeps) (HI.out.keep XF.out.keeps) hpm hjm).mono ?_; rintro e w2 ⟨v, rfl, hown, x2⟩
    obtain ⟨A, ac, rfl, ha1, ha2, hs⟩ := own_sl hown
    obtain ⟨q0, q1, q2, q3⟩ := HBF.out.keep x2.keeps
    have X2 := Lib.hid x2; have S2 := Lib.hid hs; have HA := Lib.hid (Nat.le_trans ha1 ha2)
    clear x2 hs hown ha1 ha2
    go_wp2_with fail
    refine (evalStep_any i1 GA1 gn1 gc1 RA1 rn1 rc1 OA1 on1 oc1 (foldN N) RB pn pc IA jn jc regs ins w2 (HF.out.keep X2.out.keeps) (HR.out.keep (XF.out.trans X2.out).keeps) (HI.out.keep (XF.out.trans X2.out).keeps) hpm hjm).mono ?_; rintro e w3 ⟨v, rfl, hown, x3⟩
    rw [HST.out] at hown ⊢
    obtain ⟨B, bc, rfl, -, -, hs⟩ := own_sl hown
    generalize hM : stepV N regs ins = M at *
    clear q0 q1 q2 q3
    obtain ⟨q0, q1, q2, q3⟩ := HBF.out.keep (X2.out.trans x3).keeps
    have X3 := Lib.hid (X2.out.trans x3); have S3 := Lib.hid (S2.out.keep x3.keeps); have T3 := Lib.hid hs
    clear x3 hs hown X2 S2 hM HST
    go_wp2_with fail
    refine (fold_any i1 GA1 gn1 gc1 RA1 rn1 rc1 OA1 on1 oc1 (foldN N) w3 (HF.out.keep X3.out.keeps)).mono ?_; rintro e w4 ⟨i4, GA4, gn4, gc4, RA4, rn4, rc4, OA4, on4, oc4, vs4, rfl, o4, x4⟩
    rw [CF.out]
    rw [show foldR (foldN N) = foldN N by unfold foldR; rw [if_pos CF.out, foldN_twice]] at o4
    obtain ⟨wg, hwg, hxg, hbg⟩ := netbox_new w4 i4 GA4 gn4 gc4 RA4 rn4 rc4 OA4 on4 oc4
    have X4 := Lib.hid (X3.out.trans (x4.trans hxg)); have S4 := Lib.hid (S3.out.keep (x4.trans hxg).keeps); have T4 := Lib.hid (T3.out.keep (x4.trans hxg).keeps)
    have HG := Lib.hid (o4.netC.keep hxg.keeps); have HBG := Lib.hid hbg; have HWG := Lib.hid hwg
    clear q0 q1 q2 q3 o4 x4 hwg hxg hbg S3 T3 X3
    go_wp2_with fail
    rw [← HWG.out]
    clear HWG
    refine (sweepBegun_any wg).mono ?_; rintro e w5 ⟨rfl, x5⟩
    obtain ⟨q0, q1, q2, q3⟩ := HBF.out.keep (X4.out.trans x5).keeps
    have X5 := Lib.hid (X4.out.trans x5); have S5 := Lib.hid (S4.out.keep x5.keeps); have T5 := Lib.hid (T4.out.keep x5.keeps)
    have HG5 := Lib.hid (HG.out.keep x5.keeps); have HBG5 := Lib.hid (HBG.out.keep x5.keeps)
    clear X4 S4 T4 HG HBG x5
    go_wp2_with fail
    refine (netCheck_any i1 GA1 gn1 gc1 RA1 rn1 rc1 OA1 on1 oc1 (foldN N) w5 (HF.out.keep X5.out.keeps)).mono ?_; rintro e w6 ⟨rfl, x6⟩
    rw [CF.out]
    have X6 := Lib.hid (X5.out.trans x6); have S6 := Lib.hid (S5.out.keep x6.keeps); have T6 := Lib.hid (T5.out.keep x6.keeps)
    have HG6 := Lib.hid (HG5.out.keep x6.keeps); have HBG6 := Lib.hid (HBG5.out.keep x6.keeps)
    clear X5 S5 T5 HG5 HBG5 x6 q0 q1 q2 q3
    go_wp2_with fail
    refine (sameInts_any A B M.1.length M.1.length ac bc M.1 M.1 w6 S6.out T6.out HA.out HA.out).mono ?_; rintro e w7 ⟨rfl, m, rfl⟩
    rw [decide_eq_true (rfl : M.1 = M.1)]
    have hd := (Ext.refl w6).drewN m
    obtain ⟨q0, q1, q2, q3⟩ := HBF.out.keep (X6.out.trans hd).keeps
    obtain ⟨g0, g1, g2, g3⟩ := HBG6.out.keep hd.keeps
    have X7 := Lib.hid (X6.out.trans hd)
    have HG7 := Lib.hid (HG6.out.keep hd.keeps)
    generalize w6.drewN m = w7 at *
    clear X6 S6 T6 HG6 HBG6 hd
    go_wp2_with fail
    refine (sameNets_any (HF.out.keep X7.out.keeps) HG7.out).mono ?_; rintro e w8 ⟨rfl, x8⟩
    go_wp2
    go_ret
    exact ⟨by simp, HX.out.trans (XF.out.trans (X7.out.trans x8))⟩
  · have hnz : (checkN N != 0) = true := by simpa using hc
    generalize checkN N = E at *
    have X1 := Lib.hid (HX.out.trans (x1.trans hxf))
    clear hc o1 x1 hwf hxf hbf
    go_wp2_with fail
    rw [← HWF.out]
    refine (sweepBegun_any wf).mono ?_; rintro e w5 ⟨rfl, x5⟩
    go_wp2
    go_ret
    exact ⟨rfl, X1.out.trans x5⟩
end
end Go.Proofs.Ytjagbnaacfhokaa
/- The body of SweepDrop, from the contracts. -/
namespace Go.Proofs.Ytjagbnaacfhokaa
set_option linter.unusedVariables false
set_option linter.unusedSimpArgs false
open Go.RowKit

theorem dropN_regs (N : NetM) : (dropN N).regs.length = N.regs.length := by simp [dropN]
theorem askedM_drop {N : NetM} (h : NetOK N) (regs ins : List Int) : askedM (dropN N) regs ins = askedM N regs ins := by
  unfold askedM
  rw [(dropN_ok h).check, h.check, dropN_regs]
  rfl
theorem stepV_drop2 {N : NetM} (h : NetOK N) (regs ins : List Int) : (stepV (dropN N) regs ins).2 = (stepV N regs ins).2 := by
  unfold stepV
  rw [askedM_drop h]
  split <;> rfl
/-- What a step of the dropped net gives: the same, in its new place. -/
theorem stepV_drop {N : NetM} (h : NetOK N) (regs ins : List Int) (h0 : (stepV N regs ins).2 = 0) : (stepV N regs ins).1.length = N.gates.length ∧ (stepV (dropN N) regs ins).1.length = cnt (isM N) ∧
    ∀ k : Nat, (isM N)[k]? = some true → ∃ y, (stepV N regs ins).1[k]? = some y ∧ (stepV (dropN N) regs ins).1[cnt ((isM N).take k)]? = some y := by
  unfold stepV at h0 ⊢
  rw [askedM_drop h]
  by_cases ha : askedM N regs ins = 0
  · rw [if_neg (by simp [ha]), if_neg (by simp [ha])]
    have l1 : (settledM N.gates regs ins).length = N.gates.length := settled_len _ _ _
    have l2 : (settledM (dropN N).gates regs ins).length = cnt (isM N) := by rw [settled_len, drop_len]
    refine ⟨l1, l2, fun k hk => ?_⟩
    have hlt : k < N.gates.length := by rw [← is_len]; exact (List.getElem?_eq_some_iff.1 hk).1
    have hp := cnt_take_lt hk
    have := drop_settled h regs ins (k := k) (by simp [onI, hk])
    refine ⟨valI (settledM N.gates regs ins) k, ?_, ?_⟩
    · show (settledM N.gates regs ins)[k]? = _
      unfold valI
      rw [Int.toNat_natCast, List.getElem?_eq_getElem (by omega)]; rfl
    · show (settledM (dropN N).gates regs ins)[cnt ((isM N).take k)]? = _
      rw [← this]
      unfold valI
      rw [Int.toNat_natCast, List.getElem?_eq_getElem (by omega)]; rfl
  · rw [if_pos ha] at h0; exact absurd h0 ha
section
variable (i : Int) (GA : Option Addr) (gn gc : Nat) (RA : Option Addr) (rn rc : Nat) (OA : Option Addr) (on oc : Nat) (N : NetM) (RB : Option Addr) (pn pc : Nat) (IA : Option Addr) (jn jc : Nat) (regs ins : List Int) (w : World)
set_option maxRecDepth 100000 in
set_option maxHeartbeats 8000000 in
theorem sweepDrop_walk (h : NetC w i GA gn gc RA rn rc OA on oc N) (hr : Sl w RB pn (regs.map I)) (hi : Sl w IA jn (ins.map I)) (hpm : pn ≤ maxLen) (hjm : jn ≤ maxLen) (hlo : -9223372036854775808 ≤ i) :
    Calls Try.prog 22 #[netV i GA gn gc RA rn rc OA on oc, .slice RB pn pc, .slice IA jn jc] w fun e w' => e = .returned (.bool true) ∧ Ext w w' := by
  have hgl : N.gates.length = gn := h.gates.1
  obtain ⟨W, hW, hxW, hbox⟩ := netbox_new w i GA gn gc RA rn rc OA on oc
  have HN := Lib.hid (h.keep hxW.keeps); have HBox := Lib.hid hbox; have HW := Lib.hid hW; have HX := Lib.hid hxW; have HGL := Lib.hid hgl
  have HR := Lib.hid (hr.keep hxW.keeps); have HI := Lib.hid (hi.keep hxW.keeps)
  clear h hW hxW hbox hr hi hgl
  go_enter Try.func22, Try.ntmps22
  go_wp2_with fail
  rw [← HW.out]
  refine (drop_any i GA gn gc RA rn rc OA on oc N W HN.out).mono ?_; rintro e w1 ⟨i1, GA1, gn1, gc1, RA1, rn1, rc1, OA1, on1, oc1, vs1, rfl, o1, x1⟩
  obtain ⟨wf, hwf, hxf, hbf⟩ := netbox_new w1 i1 GA1 gn1 gc1 RA1 rn1 rc1 OA1 on1 oc1
  have XF := Lib.hid (x1.trans hxf)
  have qf := HBox.out.keep (x1.trans hxf).keeps
  rw [hwf] at qf
  obtain ⟨q0, q1, q2, q3⟩ := qf
  have HBF := Lib.hid hbf; have HWF := Lib.hid hwf
  have hd1 := o1.netC.keep hxf.keeps
  clear o1 x1 hwf hxf hbf
  by_cases hc : checkN N = 0
  · have ok := checkN_ok hc
    have okd := dropN_ok ok
    rw [hc]
    rw [show dropR N = dropN N by unfold dropR; rw [if_pos hc]] at hd1
    have hrn := rnet_any i GA gn gc RA rn rc OA on oc N wf (HN.out.keep XF.out.keeps) hlo
    rw [hc] at hrn
    have hg1 : cnt (isM N) = gn1 := by rw [← drop_len]; exact hd1.gates.1
    have hg2 : gn1 ≤ gn := by have := cnt_len (isM N); rw [is_len, HGL.out] at this; omega
    have hg200 : gn ≤ 200 := by have := ok.gl; have := HGL.out; omega
    have HD := Lib.hid hd1; have OK := Lib.hid ok; have CD := Lib.hid okd.check; have RN0 := Lib.hid hrn; have HG1 := Lib.hid hg1
    have DT := Lib.hid (dropN_twice ok); have S2 := Lib.hid (stepV_drop2 ok regs ins); have SD := Lib.hid (stepV_drop ok regs ins)
    clear hc ok okd hd1 hrn hg1
    go_wp2_with fail
    clear q0 q1 q2 q3
    rw [← HWF.out]
    clear HWF
    refine RN0.out.mono ?_; rintro e w2 ⟨rfl, x2⟩
    obtain ⟨q0, q1, q2, q3⟩ := HBF.out.keep x2.keeps
    have X2 := Lib.hid x2
    clear x2 RN0
    go_wp2_with fail
    clear q0 q1 q2 q3
    refine (netCheck_any i1 GA1 gn1 gc1 RA1 rn1 rc1 OA1 on1 oc1 (dropN N) w2 (HD.out.keep X2.out.keeps)).mono ?_; rintro e w3 ⟨rfl, x3⟩
    rw [CD.out]
    obtain ⟨q0, q1, q2, q3⟩ := HBF.out.keep (X2.out.trans x3).keeps
    have p1 := (HBox.out.keep (XF.out.trans (X2.out.trans x3)).keeps).2.1
    have X3 := Lib.hid (X2.out.trans x3)
    clear x3 X2
    go_wp2_with fail
    refine (drop_any i1 GA1 gn1 gc1 RA1 rn1 rc1 OA1 on1 oc1 (dropN N) w3 (HD.out.keep X3.out.keeps)).mono ?_; rintro e w4 ⟨i4, GA4, gn4, gc4, RA4, rn4, rc4, OA4, on4, oc4, vs4, rfl, o4, x4⟩
    rw [CD.out]
    rw [show dropR (dropN N) = dropN N by unfold dropR; rw [if_pos CD.out, DT.out]] at o4
    obtain ⟨wg, hwg, hxg, hbg⟩ := netbox_new w4 i4 GA4 gn4 gc4 RA4 rn4 rc4 OA4 on4 oc4
    have X4 := Lib.hid (X3.out.trans (x4.trans hxg))
    have hq := HBF.out.keep X4.out.keeps
    have HG := Lib.hid (o4.netC.keep hxg.keeps); have HWG := Lib.hid hwg
    rw [hwg] at hq hbg
    clear q0 q1 q2 q3 p1 o4 x4 hwg hxg X3
    obtain ⟨q0, q1, q2, q3⟩ := hq; obtain ⟨g0, g1, g2, g3⟩ := hbg
    go_wp2_with fail
    rw [← HWG.out]
    clear HWG q0 q1 q2 q3 g0 g1 g2 g3
    refine (sameNets_any (HD.out.keep X4.out.keeps) HG.out).mono ?_; rintro e w5 ⟨rfl, x5⟩
    have X5 := Lib.hid (X4.out.trans x5)
    obtain ⟨q0, q1, q2, q3⟩ := HBox.out.keep (XF.out.trans X5.out).keeps
    clear x5 X4 HG
    go_wp2_with fail
    refine (evalStep_any i GA gn gc RA rn rc OA on oc N RB pn pc IA jn jc regs ins w5 (HN.out.keep (XF.out.trans X5.out).keeps) (HR.out.keep (XF.out.trans X5.out).keeps) (HI.out.keep (XF.out.trans X5.out).keeps) hpm hjm).mono ?_; rintro e w6 ⟨va, rfl, ha, x6⟩
    have X6 := Lib.hid (X5.out.trans x6)
    have HA := Lib.hid ha
    clear q0 q1 q2 q3 ha x6
    obtain ⟨q0, q1, q2, q3⟩ := HBF.out.keep X6.out.keeps
    go_wp2_with fail
    refine (evalStep_any i1 GA1 gn1 gc1 RA1 rn1 rc1 OA1 on1 oc1 (dropN N) RB pn pc IA jn jc regs ins w6 (HD.out.keep X6.out.keeps) (HR.out.keep (XF.out.trans X6.out).keeps) (HI.out.keep (XF.out.trans X6.out).keeps) hpm hjm).mono ?_; rintro e w7 ⟨vb, rfl, hb, x7⟩
    have X7 := Lib.hid (X6.out.trans x7)
    have HB := Lib.hid hb; have HA7 := Lib.hid (own_ext HA.out x7)
    rw [S2.out]
    clear q0 q1 q2 q3 hb x7
    obtain ⟨q0, q1, q2, q3⟩ := HBox.out.keep (XF.out.trans X7.out).keeps
    have hsd := SD.out
    generalize stepV N regs ins = M at *
    generalize stepV (dropN N) regs ins = D at *
    by_cases he : M.2 = 0
    · obtain ⟨la, lb, hst⟩ := hsd he
      rw [he]
      have LA := Lib.hid (la.trans HGL.out); have LB := Lib.hid (lb.trans HG1.out); have HST := Lib.hid hst
      have ha := own_base HA7.out (base' := 0) (Nat.zero_le _); have hb := own_base HB.out (base' := 0) (Nat.zero_le _)
      rw [LA.out] at ha; rw [LB.out] at hb
      clear HA HA7 HB he hsd SD la lb hst S2
      obtain ⟨A, ac, rfl, ha1, ha2, -⟩ := own_sl ha; obtain ⟨B, bc, rfl, hb1, hb2, -⟩ := own_sl hb
      have HA := Lib.hid ha; have HB := Lib.hid hb
      unfold maxLen at ha2 hb2
      clear ha hb
      go_wp2_with fail
      refine (keptOf_any i GA gn gc RA rn rc OA on oc N w7 (HN.out.keep (XF.out.trans X7.out).keeps) OK.out).mono ?_; rintro e w8 ⟨vt, rfl, ht, x8⟩
      obtain ⟨T, tc, rfl, ht1, ht2, -⟩ := own_sl ht
      unfold maxLen at ht2
      have HT := Lib.hid ht; have HA8 := Lib.hid (own_ext HA.out x8); have HB8 := Lib.hid (own_ext HB.out x8); have X8 := Lib.hid (XF.out.trans (X7.out.trans x8))
      clear ht x8 HA HB q0 q1 q2 q3
      go_wp2_with fail
      have hil : (isM N).length = gn := by rw [is_len, HGL.out]
      have HIL := Lib.hid hil
      clear hil
      go_loopw [16, 17] (fun a j wr => ∃ (k : Nat), k ≤ gn ∧ j = .int .i64 k ∧ a = .int .i64 (cnt ((isM N).take k) : Nat) ∧ Ext w8 wr) (fun _ j _ => gn - (intOf j).toNat)
      case atStart => exact ⟨0, Nat.zero_le _, rfl, rfl, Ext.refl _⟩
      case round =>
        obtain ⟨k, hk, rfl, rfl, hext⟩ := hrel
        by_cases hlt : k < gn
        · obtain ⟨bt, btc, et⟩ := own_form HT.out (by omega)
          have eT : T = some ⟨bt, 0, none⟩ := by injection et
          clear et
          subst eT
          obtain ⟨x, hx⟩ : ∃ x, (isM N)[k]? = some x := ⟨_, List.getElem?_eq_getElem (by rw [HIL.out]; exact hlt)⟩
          have hcn := cnt_next hx
          have hc0 := (own_ext HT.out hext).cellAt k (by omega)
          rw [List.getElem?_map, toM_at hx, Option.map_some] at hc0
          have hp2 : cnt ((isM N).take k) ≤ 200 := by have := cnt_len ((isM N).take k); have := List.length_take_le k (isM N); omega
          have HE := Lib.hid hext; have HCN := Lib.hid hcn
          cases x with
          | false =>
            simp only [Bool.false_eq_true, if_false, Nat.add_zero] at hc0 hcn HCN
            clear hext hcn hx
            go_wp2
            go_roundw
            case rel => exact ⟨k + 1, by omega, by go_num, by rw [HCN.out], HE.out⟩
            case measure => simp [intOf]; omega
          | true =>
            simp only [if_true] at hc0 hcn HCN
            have hp : cnt ((isM N).take k) < gn1 := by have := cnt_take_lt hx; rw [HG1.out] at this; exact this
            obtain ⟨y, hya, hyb⟩ := HST.out k hx
            obtain ⟨p, hpe⟩ : ∃ p, p = cnt ((isM N).take k) := ⟨_, rfl⟩
            rw [← hpe] at hc0 hp hp2 hyb HCN ⊢
            obtain ⟨ab, abc, ea⟩ := own_form HA8.out (by omega)
            have eA : A = some ⟨ab, 0, none⟩ := by injection ea
            clear ea
            subst eA
            obtain ⟨bb, bbc, eb⟩ := own_form HB8.out (by omega)
            have eB : B = some ⟨bb, 0, none⟩ := by injection eb
            clear eb
            subst eB
            have c1 := (own_ext HA8.out hext).cellAt k (by omega)
            have c2 := (own_ext HB8.out hext).cellAt p (by omega)
            rw [List.getElem?_map, hya, Option.map_some] at c1
            rw [List.getElem?_map, hyb, Option.map_some] at c2
            have C0 : Hid (wr.cell? ⟨bt, k, none⟩ = some (I (p : Nat))) := hc0
            have C1 : Hid (wr.cell? ⟨ab, k, none⟩ = some (I y)) := c1
            have C2 : Hid (wr.cell? ⟨bb, p, none⟩ = some (I y)) := c2
            clear hext hcn hx hya hyb hpe c1 c2
            go_wp2_with fail
            clear hc0
            refine wp_flow3 21 0 [isV (.slice (some ⟨bt, 0, none⟩) gn tc), isV (.int .i64 k), isV (.pointer (some ⟨bt, k, none⟩)), isV (.int .i64 p), isV (.slice (some ⟨bb, 0, none⟩) gn1 bc), isV (.int .i64 gn1), isV (.bool false), isV (.bool false), isV (.slice (some ⟨bb, 0, none⟩) gn1 bc), isV (.slice (some ⟨bt, 0, none⟩) gn tc), isV (.int .i64 k), isV (.pointer (some ⟨bt, k, none⟩)), isV (.int .i64 p), isV (.pointer (some ⟨bb, p, none⟩)), isV (I y), isV (.slice (some ⟨ab, 0, none⟩) gn ac), isV (.int .i64 k), isV (.pointer (some ⟨ab, k, none⟩)), isV (I y), isV (.bool false), isV (.bool false)] (by kernel_rfl) rfl rfl (by kernel_rfl) (by kernel_rfl) ⟨isV_mono, isV_mono, isV_mono, isV_mono, isV_mono, isV_mono, isV_mono, isV_mono, isV_mono, isV_mono, isV_mono, isV_mono, isV_mono, isV_mono, isV_mono, isV_mono, isV_mono, isV_mono, isV_mono, isV_mono, isV_mono, trivial⟩ ?each ?rest
            case each =>
              refine .cons ?_ (.cons ?_ (.cons ?_ (.cons ?_ (.cons ?_ (.cons ?_ (.cons ?_ (.cons ?_ (.cons ?_ (.cons ?_ (.cons ?_ (.cons ?_ (.cons ?_ (.cons ?_ (.cons ?_ (.cons ?_ (.cons ?_ (.cons ?_ (.cons ?_ (.cons ?_ (.cons ?_ (.nil)))))))))))))))))))))
              · intro fa fw hx hs hb
                have s15 : fa.tmps[(15 : Nat)]? = some (.slice (some ⟨bt, 0, none⟩) gn tc) := (hb 15 (by kernel_rfl)).trans (by rfl)
                refine .inl ⟨wanted_free rfl, fun K hK => ?_⟩
                clear hs hb hx
                go_simp
                exact hK _ _ rfl (Ext.refl _)
              · intro fa fw hx hs hb
                have s17 : fa.tmps[(17 : Nat)]? = some (.int .i64 k) := (hb 17 (by kernel_rfl)).trans (by rfl)
                refine .inl ⟨wanted_free rfl, fun K hK => ?_⟩
                clear hs hb hx
                go_simp
                exact hK _ _ rfl (Ext.refl _)
              · intro fa fw hx hs hb
                obtain ⟨_, s103, rfl⟩ := hs 0 103 (by kernel_rfl) (by kernel_rfl)
                obtain ⟨_, s104, rfl⟩ := hs 1 104 (by kernel_rfl) (by kernel_rfl)
                refine .inl ⟨wanted_free rfl, fun K hK => ?_⟩
                clear hs hb hx
                go_simp
                exact hK _ _ rfl (Ext.refl _)
              · intro fa fw hx hs hb
                obtain ⟨_, s105, rfl⟩ := hs 2 105 (by kernel_rfl) (by kernel_rfl)
                have c0 := hx.keeps _ _ C0.out
                refine .inl ⟨wanted_free rfl, fun K hK => ?_⟩
                clear hs hb hx
                go_simp
                exact hK _ _ rfl (Ext.refl _)
              · intro fa fw hx hs hb
                have s13 : fa.tmps[(13 : Nat)]? = some (.slice (some ⟨bb, 0, none⟩) gn1 bc) := (hb 13 (by kernel_rfl)).trans (by rfl)
                refine .inl ⟨wanted_free rfl, fun K hK => ?_⟩
                clear hs hb hx
                go_simp
                exact hK _ _ rfl (Ext.refl _)
              · intro fa fw hx hs hb
                obtain ⟨_, s107, rfl⟩ := hs 4 107 (by kernel_rfl) (by kernel_rfl)
                refine .inl ⟨wanted_free rfl, fun K hK => ?_⟩
                clear hs hb
                go_simp
                exact hK _ _ rfl (Ext.refl _)
              · intro fa fw hx hs hb
                obtain ⟨_, s106, rfl⟩ := hs 3 106 (by kernel_rfl) (by kernel_rfl)
                obtain ⟨_, s108, rfl⟩ := hs 5 108 (by kernel_rfl) (by kernel_rfl)
                refine .inl ⟨wanted_free rfl, fun K hK => ?_⟩
                clear hs hb
                go_simp
                rw [decide_eq_false (show ¬ gn1 ≤ p by omega)]
                exact hK _ _ rfl (Ext.refl _)
              · intro fa fw hx hs hb
                obtain ⟨_, s109, rfl⟩ := hs 6 109 (by kernel_rfl) (by kernel_rfl)
                refine .inl ⟨wanted_free rfl, fun K hK => ?_⟩
                clear hs hb hx
                go_simp
                exact hK _ _ rfl (Ext.refl _)
              · intro fa fw hx hs hb
                obtain ⟨_, s110, rfl⟩ := hs 7 110 (by kernel_rfl) (by kernel_rfl)
                have s13 : fa.tmps[(13 : Nat)]? = some (.slice (some ⟨bb, 0, none⟩) gn1 bc) := (hb 13 (by kernel_rfl)).trans (by rfl)
                refine .inl ⟨wanted_yes 7 false 110 rfl (by kernel_rfl) s110, fun K hK => ?_⟩
                clear hs hb hx
                go_simp
                exact hK _ _ rfl (Ext.refl _)
              · intro fa fw hx hs hb
                obtain ⟨_, s110, rfl⟩ := hs 7 110 (by kernel_rfl) (by kernel_rfl)
                have s15 : fa.tmps[(15 : Nat)]? = some (.slice (some ⟨bt, 0, none⟩) gn tc) := (hb 15 (by kernel_rfl)).trans (by rfl)
                refine .inl ⟨wanted_yes 7 false 110 rfl (by kernel_rfl) s110, fun K hK => ?_⟩
                clear hs hb hx
                go_simp
                exact hK _ _ rfl (Ext.refl _)
              · intro fa fw hx hs hb
                obtain ⟨_, s110, rfl⟩ := hs 7 110 (by kernel_rfl) (by kernel_rfl)
                have s17 : fa.tmps[(17 : Nat)]? = some (.int .i64 k) := (hb 17 (by kernel_rfl)).trans (by rfl)
                refine .inl ⟨wanted_yes 7 false 110 rfl (by kernel_rfl) s110, fun K hK => ?_⟩
                clear hs hb hx
                go_simp
                exact hK _ _ rfl (Ext.refl _)
              · intro fa fw hx hs hb
                obtain ⟨_, s110, rfl⟩ := hs 7 110 (by kernel_rfl) (by kernel_rfl)
                obtain ⟨_, s112, rfl⟩ := hs 9 112 (by kernel_rfl) (by kernel_rfl)
                obtain ⟨_, s113, rfl⟩ := hs 10 113 (by kernel_rfl) (by kernel_rfl)
                refine .inl ⟨wanted_yes 7 false 110 rfl (by kernel_rfl) s110, fun K hK => ?_⟩
                clear hs hb hx
                go_simp
                exact hK _ _ rfl (Ext.refl _)
              · intro fa fw hx hs hb
                obtain ⟨_, s110, rfl⟩ := hs 7 110 (by kernel_rfl) (by kernel_rfl)
                obtain ⟨_, s114, rfl⟩ := hs 11 114 (by kernel_rfl) (by kernel_rfl)
                have c0 := hx.keeps _ _ C0.out
                refine .inl ⟨wanted_yes 7 false 110 rfl (by kernel_rfl) s110, fun K hK => ?_⟩
                clear hs hb hx
                go_simp
                exact hK _ _ rfl (Ext.refl _)
              · intro fa fw hx hs hb
                obtain ⟨_, s110, rfl⟩ := hs 7 110 (by kernel_rfl) (by kernel_rfl)
                obtain ⟨_, s111, rfl⟩ := hs 8 111 (by kernel_rfl) (by kernel_rfl)
                obtain ⟨_, s115, rfl⟩ := hs 12 115 (by kernel_rfl) (by kernel_rfl)
                refine .inl ⟨wanted_yes 7 false 110 rfl (by kernel_rfl) s110, fun K hK => ?_⟩
                clear hs hb hx
                go_simp
                exact hK _ _ rfl (Ext.refl _)
              · intro fa fw hx hs hb
                obtain ⟨_, s110, rfl⟩ := hs 7 110 (by kernel_rfl) (by kernel_rfl)
                obtain ⟨_, s116, rfl⟩ := hs 13 116 (by kernel_rfl) (by kernel_rfl)
                have c0 := hx.keeps _ _ C2.out
                refine .inl ⟨wanted_yes 7 false 110 rfl (by kernel_rfl) s110, fun K hK => ?_⟩
                clear hs hb hx
                go_simp
                exact hK _ _ rfl (Ext.refl _)
              · intro fa fw hx hs hb
                obtain ⟨_, s110, rfl⟩ := hs 7 110 (by kernel_rfl) (by kernel_rfl)
                have s11 : fa.tmps[(11 : Nat)]? = some (.slice (some ⟨ab, 0, none⟩) gn ac) := (hb 11 (by kernel_rfl)).trans (by rfl)
                refine .inl ⟨wanted_yes 7 false 110 rfl (by kernel_rfl) s110, fun K hK => ?_⟩
                clear hs hb hx
                go_simp
                exact hK _ _ rfl (Ext.refl _)
              · intro fa fw hx hs hb
                obtain ⟨_, s110, rfl⟩ := hs 7 110 (by kernel_rfl) (by kernel_rfl)
                have s17 : fa.tmps[(17 : Nat)]? = some (.int .i64 k) := (hb 17 (by kernel_rfl)).trans (by rfl)
                refine .inl ⟨wanted_yes 7 false 110 rfl (by kernel_rfl) s110, fun K hK => ?_⟩
                clear hs hb hx
                go_simp
                exact hK _ _ rfl (Ext.refl _)
              · intro fa fw hx hs hb
                obtain ⟨_, s110, rfl⟩ := hs 7 110 (by kernel_rfl) (by kernel_rfl)
                obtain ⟨_, s118, rfl⟩ := hs 15 118 (by kernel_rfl) (by kernel_rfl)
                obtain ⟨_, s119, rfl⟩ := hs 16 119 (by kernel_rfl) (by kernel_rfl)
                refine .inl ⟨wanted_yes 7 false 110 rfl (by kernel_rfl) s110, fun K hK => ?_⟩
                clear hs hb hx
                go_simp
                exact hK _ _ rfl (Ext.refl _)
              · intro fa fw hx hs hb
                obtain ⟨_, s110, rfl⟩ := hs 7 110 (by kernel_rfl) (by kernel_rfl)
                obtain ⟨_, s120, rfl⟩ := hs 17 120 (by kernel_rfl) (by kernel_rfl)
                have c0 := hx.keeps _ _ C1.out
                refine .inl ⟨wanted_yes 7 false 110 rfl (by kernel_rfl) s110, fun K hK => ?_⟩
                clear hs hb hx
                go_simp
                exact hK _ _ rfl (Ext.refl _)
              · intro fa fw hx hs hb
                obtain ⟨_, s110, rfl⟩ := hs 7 110 (by kernel_rfl) (by kernel_rfl)
                obtain ⟨_, s117, rfl⟩ := hs 14 117 (by kernel_rfl) (by kernel_rfl)
                obtain ⟨_, s121, rfl⟩ := hs 18 121 (by kernel_rfl) (by kernel_rfl)
                refine .inl ⟨wanted_yes 7 false 110 rfl (by kernel_rfl) s110, fun K hK => ?_⟩
                clear hs hb
                go_simp
                exact hK _ _ rfl (Ext.refl _)
              · intro fa fw hx hs hb
                obtain ⟨_, s110, rfl⟩ := hs 7 110 (by kernel_rfl) (by kernel_rfl)
                obtain ⟨_, s122, rfl⟩ := hs 19 122 (by kernel_rfl) (by kernel_rfl)
                refine .inl ⟨wanted_free rfl, fun K hK => ?_⟩
                clear hs hb hx
                go_simp
                exact hK _ _ rfl (Ext.refl _)
            case rest =>
              intro wl hxwl
              rintro _ rfl
              rintro _ rfl
              rintro _ rfl
              rintro _ rfl
              rintro _ rfl
              rintro _ rfl
              rintro _ rfl
              rintro _ rfl
              rintro _ rfl
              rintro _ rfl
              rintro _ rfl
              rintro _ rfl
              rintro _ rfl
              rintro _ rfl
              rintro _ rfl
              rintro _ rfl
              rintro _ rfl
              rintro _ rfl
              rintro _ rfl
              rintro _ rfl
              rintro _ rfl
              simp only [putAll, List.take, Act.put, List.setIfInBounds_toArray, List.set_cons_zero, List.set_cons_succ]
              refine wpAny_done (by kernel_rfl) ?_ _
              have HE2 := Lib.hid (HE.out.trans hxwl)
              clear hxwl
              go_wp2
              go_roundw
              case rel => exact ⟨k + 1, by omega, by go_num, by rw [HCN.out]; go_num, HE2.out⟩
              case measure => simp [intOf]; omega
        · obtain rfl : gn = k := by omega
          have ht2 : (isM N).take gn = isM N := List.take_of_length_le (by rw [HIL.out]; exact Nat.le_refl _)
          rw [ht2, HG1.out]
          have HE := Lib.hid hext
          clear hext ht2
          go_wp2_with fail
          refine (sweepBegun_any wr).mono ?_; rintro e w9 ⟨rfl, x9⟩
          go_wp2
          go_ret
          exact ⟨by simp, HX.out.trans (X8.out.trans (HE.out.trans x9))⟩
    · have hnz : (M.2 != 0) = true := by simpa using he
      generalize M.2 = E at *
      clear hsd he
      go_wp2_with fail
      refine (sweepBegun_any w7).mono ?_; rintro e w8 ⟨rfl, x8⟩
      go_wp2
      go_ret
      exact ⟨rfl, HX.out.trans (XF.out.trans (X7.out.trans x8))⟩
  · have hnz : (checkN N != 0) = true := by simpa using hc
    have hrn := fun Q (hQ : Ext wf Q) => rnet_any i GA gn gc RA rn rc OA on oc N Q (HN.out.keep (XF.out.trans hQ).keeps) hlo
    have RR := Lib.hid hrn
    clear hc hrn hd1
    generalize checkN N = E at *
    go_wp2_with fail
    rw [← HWF.out]
    refine (sweepBegun_any wf).mono ?_; rintro e w5 ⟨rfl, x5⟩
    clear q0 q1 q2 q3
    obtain ⟨q0, q1, q2, q3⟩ := HBox.out.keep (XF.out.trans x5).keeps
    have X5 := Lib.hid x5
    clear x5
    go_wp2_with fail
    refine (RR.out w5 X5.out).mono ?_; rintro e w6 ⟨rfl, x6⟩
    go_wp2
    go_ret
    exact ⟨by simp, HX.out.trans (XF.out.trans (X5.out.trans x6))⟩
end
end Go.Proofs.Ytjagbnaacfhokaa
