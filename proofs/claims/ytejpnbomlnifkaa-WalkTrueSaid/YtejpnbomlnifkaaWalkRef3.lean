/- The reference's on walked. -/
import Derived.Test.YtejpnbomlnifkaaWalkRef2
namespace Go.Proofs.Ytejpnbomlnifkaa
set_option linter.unusedVariables false
set_option linter.unusedSimpArgs false
open Go.RowKit
attribute [local go_sem ↓] Go.wp_at_zero Go.wp_at_succ

section
variable (w0 : World) (b g1 g2 g3 : Nat) (PA : Option Addr) (n pc : Nat) (fr : Bool) (WA : Option Addr) (wc : Nat) (OA : Option Addr) (oc ic : Nat) (ins : Int) (p : List PNode) (outs V : List Bool)
set_option maxRecDepth 100000 in
set_option maxHeartbeats 4000000 in
theorem ron_leaf (hp : SlN w0 PA n p) (hn : n ≤ 14) (hVk : waitsOK p V) (x : PNode) (k : Nat) (ht : TreeAt p k (.leaf x)) (ok : (Tr.leaf x).ok) (hg : goodN x) : ROnOK w0 b g1 g2 g3 PA n pc fr WA wc OA oc ic ins outs V (.leaf x) k := by
  intro wr s h hso hz
  have hle := ht.le
  have hpl := hp.1
  have hkn : k < n := by simp [Tr.size] at hle; omega
  have hsg := leaf_sig' hg
  have htop := ht.top
  have hzk := hz k (Nat.le_refl _) (by simp [Tr.size])
  have hw : waitK x.kind = true := by
    obtain ⟨y, h1, h2⟩ := hVk k (some_leaf hso)
    rw [htop] at h1; injection h1 with h1; rw [← h1] at h2; exact h2
  have hk : x.kind = 1 ∨ x.kind = 2 ∨ x.kind = 4 := by simpa [waitK, or_assoc] using hw
  obtain ⟨pb, poff, y, rfl, d0, d1, -, hy⟩ := hp.next hkn
  have hyx : y = x := by rw [htop] at hy; injection hy with hy; exact hy.symm
  subst hyx
  have c0 := h.c0; have c6 := h.c6
  have hbl := lt_of_cell c0
  have e0 := h.ext.keeps _ _ d0; have e1 := h.ext.keeps _ _ d1
  have hpl2 := lt_of_cell e0
  have HS := Lib.hid h; have HZ := Lib.hid hzk
  obtain ⟨⟨u, hu, hcu⟩, hfz, -⟩ := own_at h.W hkn
  have hgl := lt_of_cell hcu
  obtain ⟨kd, sg⟩ := y
  simp only at hsg
  generalize hM : onT (thereM ins) (wasM outs) V (.leaf ⟨kd, sg⟩) k s = M
  simp only [onT] at hM
  clear hp h ht ok hg hle hpl htop hy d0 d1 hu hVk hw hso hz hzk
  rcases hk with rfl | rfl | rfl
  · have HM := Lib.hid hM; clear hM c6 hcu hfz hsg
    go_enter Try.func40, Try.ntmps40
    go_wp2
    go_ret
    exact ⟨by rw [← HM.out]; rfl, by rw [← HM.out]; exact HS.out.more ((Ext.refl wr).alloc _), .of_ext ((Ext.refl wr).alloc _)⟩
  · have HM := Lib.hid hM; clear hM hsg
    go_enter Try.func40, Try.ntmps40
    go_wp2
    go_ret
    exact ⟨by rw [← HM.out]; rfl, by rw [← HM.out]; exact (HS.out.setW k).more ((Ext.refl _).alloc _), ((Off.refl g1 g2 wr).set1 k _).alloc _⟩
  · simp only [Int.reduceEq, if_false] at hM
    obtain ⟨sn, rfl⟩ := Int.eq_ofNat_of_zero_le hsg.1
    have hsn : sn < 3 := by have := hsg.2; omega
    have hq0 : (0 : Int) ≤ (sn : Int) := by omega
    have hq3 : (sn : Int) < 3 := by omega
    have hx1 := (Ext.refl wr).alloc (.cells #[.int .i64 4, .int .i64 (sn : Int)] 63)
    have hbd : ins / 2 ^ sn % 2 = 0 ∨ ins / 2 ^ sn % 2 = 1 := by omega
    have yb := HS.out.bit hsn
    have hk0 : (0 : Int) ≤ (k : Int) := by omega
    have hkn' : (k : Int) < (n : Int) := by omega
    have hth : thereM ins (sn : Int) = decide (ins / 2 ^ sn % 2 = 1) := by simp [thereM]
    rw [hth] at hM
    clear hth hsg c6 hcu hfz hgl
    generalize ins / 2 ^ sn % 2 = bt at *
    rcases hbd with rfl | rfl
    · have HM := Lib.hid hM; clear hM
      go_enter Try.func40, Try.ntmps40
      go_wp2_with fail
      have z1 : (wr.alloc (.cells #[.int .i64 4, .int .i64 (sn : Int)] 63)).cell? ⟨wr.heap.size, 1, none⟩ = some (.int .i64 (sn : Int)) := by go_simp
      generalize wr.alloc (.cells #[.int .i64 4, .int .i64 (sn : Int)] 63) = W4 at *
      have HS4 := HS.out.more hx1
      have y6 := HS4.c6; have y4 := HS4.c4; have yb4 := hx1.keeps _ _ yb
      obtain ⟨⟨u, hu, hcu⟩, hfz, -⟩ := own_at HS4.W hkn
      have HS5 := Lib.hid HS4; have HX4 := Lib.hid hx1
      clear hx1 HS4 hu yb
      go_still_tail 16, (by kernel_rfl)
      have v6 : (W4.setCell ⟨g1, k, none⟩ (Value.bool true)).cell? ⟨b, 6, none⟩ = some (.slice (some ⟨g1, 0, none⟩) n n) := (HS5.out.setW k).c6
      change wpList _ _ _ _ _ W4.drew
      go_wp2_with fail
      have HS6 := (HS5.out.setW k).more ((Ext.refl (W4.setCell ⟨g1, k, none⟩ (Bv true))).drew)
      have v7 : (W4.setCell ⟨g1, k, none⟩ (Value.bool true)).cell? ⟨g1, k, none⟩ = some (Value.bool true) := World.cell?_setCell_same _ _ _ hcu
      go_wp2
      go_ret
      exact ⟨by rw [← HM.out]; rfl, by rw [← HM.out]; exact HS6, ((Off.of_ext HX4.out).set1 k _).drew⟩
    · have HM := Lib.hid hM; clear hM
      go_enter Try.func40, Try.ntmps40
      go_wp2_with fail
      have z1 : (wr.alloc (.cells #[.int .i64 4, .int .i64 (sn : Int)] 63)).cell? ⟨wr.heap.size, 1, none⟩ = some (.int .i64 (sn : Int)) := by go_simp
      generalize wr.alloc (.cells #[.int .i64 4, .int .i64 (sn : Int)] 63) = W4 at *
      have HS4 := HS.out.more hx1
      have y6 := HS4.c6; have y4 := HS4.c4; have yb4 := hx1.keeps _ _ yb
      obtain ⟨⟨u, hu, hcu⟩, hfz, -⟩ := own_at HS4.W hkn
      have HS5 := Lib.hid HS4; have HX4 := Lib.hid hx1
      clear hx1 HS4 hu yb
      go_still_tail 16, (by kernel_rfl)
      have v6 : (W4.setCell ⟨g1, k, none⟩ (Value.bool false)).cell? ⟨b, 6, none⟩ = some (.slice (some ⟨g1, 0, none⟩) n n) := (HS5.out.setF HZ.out).c6
      change wpList _ _ _ _ _ W4.drew
      go_wp2_with fail
      have v7 : (W4.setCell ⟨g1, k, none⟩ (Value.bool false)).cell? ⟨g1, k, none⟩ = some (Value.bool false) := World.cell?_setCell_same _ _ _ hcu
      have HS6 := (HS5.out.setF HZ.out).more ((Ext.refl (W4.setCell ⟨g1, k, none⟩ (Bv false))).drew)
      go_wp2
      go_ret
      exact ⟨by rw [← HM.out]; rfl, by rw [← HM.out]; exact (HS5.out.setF HZ.out).more ((Ext.refl (W4.setCell ⟨g1, k, none⟩ (Bv false))).drew), ((Off.of_ext HX4.out).set1 k _).drew⟩
end
end Go.Proofs.Ytejpnbomlnifkaa

