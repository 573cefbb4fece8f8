/- The walker's begin walked. -/
import Derived.Test.YtejpnbomlnifkaaWalkLib
import Derived.StillTailTactics
namespace Go.Proofs.Ytejpnbomlnifkaa
set_option linter.unusedVariables false
set_option linter.unusedSimpArgs false
open Go.RowKit
attribute [local go_sem ↓] Go.wp_at_zero Go.wp_at_succ

section
variable (w0 : World) (b g1 g2 : Nat) (PA : Option Addr) (n pc : Nat) (fr : Bool) (WA : Option Addr) (wc : Nat) (OA : Option Addr) (oc : Nat) (ins : Int) (p : List PNode) (outs : List Bool)
set_option maxRecDepth 100000 in
set_option maxHeartbeats 4000000 in
theorem wbegin_leaf (hp : SlN w0 PA n p) (hn : n ≤ 14) (x : PNode) (k : Nat) (wr : World) (s : StM) (ht : TreeAt p k (.leaf x)) (ok : (Tr.leaf x).ok) (hg : goodN x) (h : WSt w0 b g1 g2 PA n pc fr WA wc OA oc ins wr s) :
    Calls Try.prog 49 #[.pointer (some ⟨b, 0, none⟩), I k] wr fun e w' => e = .returned (.bool (beginT (thereM ins) (wasM outs) (.leaf x) k s).1) ∧
      WSt w0 b g1 g2 PA n pc fr WA wc OA oc ins w' (beginT (thereM ins) (wasM outs) (.leaf x) k s).2 ∧ Off g1 g2 wr w' := by
  have hle := ht.le
  have hpl := hp.1
  have hkn : k < n := by simp [Tr.size] at hle; omega
  have hof := ht.of_leaf ok
  have hk := good_leaf' ok hg
  have hsg := hg.2
  have htop := ht.top
  obtain ⟨pb, poff, y, rfl, d0, d1, -, hy⟩ := hp.next hkn
  have hyx : y = x := by rw [htop] at hy; injection hy with hy; exact hy.symm
  subst hyx
  have c0 := h.c0; have c6 := h.c6
  have hbl := lt_of_cell c0
  have e0 := h.ext.keeps _ _ d0; have e1 := h.ext.keeps _ _ d1
  have hpl2 := lt_of_cell e0
  have HP := Lib.hid hp; have HOF := Lib.hid hof; have HS := Lib.hid h
  obtain ⟨kd, sg⟩ := y
  simp only [beginT] at *
  clear hp hof h ht ok hg hle hpl htop hy d0 d1
  rcases hk with rfl | rfl | rfl | rfl | rfl
  · clear c6 hsg
    go_enter Try.func49, Try.ntmps49
    go_wp2_with fail
    refine (progOf_any _ n pc p k _ ((HP.out.keep HS.out.ext.keeps).keep (((Ext.refl wr).alloc _).alloc _).keeps) (by omega) hkn).mono ?_; rintro e w' ⟨rfl, rfl⟩; rw [HOF.out]
    go_wp2
    go_ret
    exact ⟨rfl, HS.out.more (((((Ext.refl wr).alloc _).alloc _).alloc _).alloc _), .of_ext (((((Ext.refl wr).alloc _).alloc _).alloc _).alloc _)⟩
  · clear c6 hsg
    go_enter Try.func49, Try.ntmps49
    go_wp2_with fail
    refine (progOf_any _ n pc p k _ ((HP.out.keep HS.out.ext.keeps).keep (((Ext.refl wr).alloc _).alloc _).keeps) (by omega) hkn).mono ?_; rintro e w' ⟨rfl, rfl⟩; rw [HOF.out]
    go_wp2_with fail
    have hx4 := (((((Ext.refl wr).alloc (.cells #[.pointer (some ⟨b, 0, none⟩)] 82)).alloc (.cells #[.int .i64 1, .int .i64 sg] 63)).alloc (.cells #[.int .i64 0] 3)).alloc (.cells #[.int .i64 0] 3))
    refine (wwait_any w0 b g1 g2 _ n pc fr WA wc OA oc ins _ s (HS.out.more hx4) k hkn).mono ?_; rintro e w' ⟨rfl, rfl⟩
    go_wp2
    go_ret
    exact ⟨rfl, (HS.out.more hx4).setW k, (Off.of_ext hx4).set1 k _⟩
  · clear c6 hsg
    go_enter Try.func49, Try.ntmps49
    go_wp2_with fail
    refine (progOf_any _ n pc p k _ ((HP.out.keep HS.out.ext.keeps).keep (((Ext.refl wr).alloc _).alloc _).keeps) (by omega) hkn).mono ?_; rintro e w' ⟨rfl, rfl⟩; rw [HOF.out]
    go_wp2_with fail
    have hx4 := (((((Ext.refl wr).alloc (.cells #[.pointer (some ⟨b, 0, none⟩)] 82)).alloc (.cells #[.int .i64 2, .int .i64 sg] 63)).alloc (.cells #[.int .i64 0] 3)).alloc (.cells #[.int .i64 0] 3))
    refine (wwait_any w0 b g1 g2 _ n pc fr WA wc OA oc ins _ s (HS.out.more hx4) k hkn).mono ?_; rintro e w' ⟨rfl, rfl⟩
    go_wp2
    go_ret
    exact ⟨rfl, (HS.out.more hx4).setW k, (Off.of_ext hx4).set1 k _⟩
  · have hsr : 0 ≤ sg ∧ sg < 3 := by simp [badSig, signsM] at hsg; omega
    obtain ⟨q, rfl⟩ := Int.eq_ofNat_of_zero_le hsr.1
    have hq : q < 3 := by omega
    clear hsg hsr
    go_enter Try.func49, Try.ntmps49
    go_wp2_with fail
    refine (progOf_any _ n pc p k _ ((HP.out.keep HS.out.ext.keeps).keep (((Ext.refl wr).alloc _).alloc _).keeps) (by omega) hkn).mono ?_; rintro e w' ⟨rfl, rfl⟩; rw [HOF.out]
    go_wp2_with fail
    have hx4 := (((((Ext.refl wr).alloc (.cells #[.pointer (some ⟨b, 0, none⟩)] 82)).alloc (.cells #[.int .i64 3, .int .i64 (q : Int)] 63)).alloc (.cells #[.int .i64 0] 3)).alloc (.cells #[.int .i64 0] 3))
    have z0 : ((((wr.alloc (.cells #[.pointer (some ⟨b, 0, none⟩)] 82)).alloc (.cells #[.int .i64 3, .int .i64 (q : Int)] 63)).alloc (.cells #[.int .i64 0] 3)).alloc (.cells #[.int .i64 0] 3)).cell? ⟨wr.heap.size, 0, none⟩ = some (.pointer (some ⟨b, 0, none⟩)) := by go_simp
    have z1 : ((((wr.alloc (.cells #[.pointer (some ⟨b, 0, none⟩)] 82)).alloc (.cells #[.int .i64 3, .int .i64 (q : Int)] 63)).alloc (.cells #[.int .i64 0] 3)).alloc (.cells #[.int .i64 0] 3)).cell? ⟨wr.heap.size + 1, 1, none⟩ = some (.int .i64 (q : Int)) := by go_simp
    generalize (((wr.alloc (.cells #[.pointer (some ⟨b, 0, none⟩)] 82)).alloc (.cells #[.int .i64 3, .int .i64 (q : Int)] 63)).alloc (.cells #[.int .i64 0] 3)).alloc (.cells #[.int .i64 0] 3) = W4 at *
    have HS4 := HS.out.more hx4
    have y6 := HS4.c6
    obtain ⟨⟨u, hu, hcu⟩, hfz, -⟩ := own_at HS4.O hq
    have HS5 := Lib.hid HS4; have HX4 := Lib.hid hx4
    clear hx4 HS4 hu c6
    have hq0 : (0 : Int) ≤ (q : Int) := by omega
    have hq3 : (q : Int) < 3 := by omega
    go_still_tail 8, (by kernel_rfl)
    change wpList _ _ _ _ _ W4.drew
    go_wp2
    go_ret
    exact ⟨rfl, (HS5.out.setO q).more ((Ext.refl _).drew), ((Off.of_ext HX4.out).set2 q _).drew⟩
  · clear c6 hsg
    go_enter Try.func49, Try.ntmps49
    go_wp2_with fail
    refine (progOf_any _ n pc p k _ ((HP.out.keep HS.out.ext.keeps).keep (((Ext.refl wr).alloc _).alloc _).keeps) (by omega) hkn).mono ?_; rintro e w' ⟨rfl, rfl⟩; rw [HOF.out]
    go_wp2_with fail
    have hx4 := (((((Ext.refl wr).alloc (.cells #[.pointer (some ⟨b, 0, none⟩)] 82)).alloc (.cells #[.int .i64 4, .int .i64 sg] 63)).alloc (.cells #[.int .i64 0] 3)).alloc (.cells #[.int .i64 0] 3))
    refine (wwait_any w0 b g1 g2 _ n pc fr WA wc OA oc ins _ s (HS.out.more hx4) k hkn).mono ?_; rintro e w' ⟨rfl, rfl⟩
    go_wp2
    go_ret
    exact ⟨rfl, (HS.out.more hx4).setW k, (Off.of_ext hx4).set1 k _⟩
end
end Go.Proofs.Ytejpnbomlnifkaa
