/- The reference's on walked. -/
import Derived.Test.YtlafiddfplhafaaFa10
import Derived.Test.YtlafiddfplhafaaFa02
import Derived.Test.YtlafiddfplhafaaFa07
import Derived.Test.YtlafiddfplhafaaFa09
namespace Go.Proofs.Ytlafiddfplhafaa
set_option linter.unusedVariables false
set_option linter.unusedSimpArgs false
set_option linter.unusedVariables false
set_option linter.unusedSimpArgs false
open Go.RowKit
attribute [local go_sem ↓] Go.wp_at_zero Go.wp_at_succ
section
variable (w0 : World) (b g1 g2 g3 : Nat) (PA : Option Addr) (n pc : Nat) (fr : Bool) (WA : Option Addr) (wc : Nat) (OA : Option Addr) (oc ic : Nat) (ins : Int) (p : List PNode) (outs V : List Bool)
set_option maxRecDepth 100000 in
set_option maxHeartbeats 4000000 in
theorem ron_leaf (hp : SlN w0 PA n p) (hn : n ≤ 14) (hVk : waitsOK p V) (x : PNode) (k : Nat) (ht : TreeAt p k (.leaf x)) (ok : (Tr.leaf x).ok) (hg : goodN x) : ROnOK w0 b g1 g2 g3 PA n pc fr WA wc OA oc ic ins outs V (.leaf x) k := by
  intro wr s h hso hz
  have hle := ht.le
  have hpl := hp.1
  have hkn : k < n := by simp [Tr.size] at hle; omega
  have hsg := leaf_sig' hg
  have htop := ht.top
  have hzk := hz k (Nat.le_refl _) (by simp [Tr.size])
  have hw : waitK x.kind = true := by
    obtain ⟨y, h1, h2⟩ := hVk k (some_leaf hso)
    rw [htop] at h1; injection h1 with h1; rw [← h1] at h2; exact h2
  have hk : x.kind = 1 ∨ x.kind = 2 ∨ x.kind = 4 := by simpa [waitK, or_assoc] using hw
  obtain ⟨pb, poff, y, rfl, d0, d1, -, hy⟩ := hp.next hkn
  have hyx : y = x := by rw [htop] at hy; injection hy with hy; exact hy.symm
  subst hyx
  have c0 := h.c0; have c6 := h.c6
  have hbl := lt_of_cell c0
  have e0 := h.ext.keeps _ _ d0; have e1 := h.ext.keeps _ _ d1
  have hpl2 := lt_of_cell e0
  have HS := Lib.hid h; have HZ := Lib.hid hzk
  obtain ⟨⟨u, hu, hcu⟩, hfz, -⟩ := own_at h.W hkn
  have hgl := lt_of_cell hcu
  obtain ⟨kd, sg⟩ := y
  simp only at hsg
  generalize hM : onT (thereM ins) (wasM outs) V (.leaf ⟨kd, sg⟩) k s = M
  simp only [onT] at hM
  clear hp h ht ok hg hle hpl htop hy d0 d1 hu hVk hw hso hz hzk
  rcases hk with rfl | rfl | rfl
  · have HM := Lib.hid hM; clear hM c6 hcu hfz hsg
    go_enter Try.func74, Try.ntmps74
    go_wp2
    go_ret
    exact ⟨by rw [← HM.out]; rfl, by rw [← HM.out]; exact HS.out.more ((Ext.refl wr).alloc _), .of_ext ((Ext.refl wr).alloc _)⟩
  · have HM := Lib.hid hM; clear hM hsg
    go_enter Try.func74, Try.ntmps74
    go_wp2
    go_ret
    exact ⟨by rw [← HM.out]; rfl, by rw [← HM.out]; exact (HS.out.setW k).more ((Ext.refl _).alloc _), ((Off.refl g1 g2 wr).set1 k _).alloc _⟩
  · simp only [Int.reduceEq, if_false] at hM
    obtain ⟨sn, rfl⟩ := Int.eq_ofNat_of_zero_le hsg.1
    have hsn : sn < 3 := by have := hsg.2; omega
    have hq0 : (0 : Int) ≤ (sn : Int) := by omega
    have hq3 : (sn : Int) < 3 := by omega
    have hx1 := (Ext.refl wr).alloc (.cells #[.int .i64 4, .int .i64 (sn : Int)] 64)
    have hbd : ins / 2 ^ sn % 2 = 0 ∨ ins / 2 ^ sn % 2 = 1 := by omega
    have yb := HS.out.bit hsn
    have hk0 : (0 : Int) ≤ (k : Int) := by omega
    have hkn' : (k : Int) < (n : Int) := by omega
    have hth : thereM ins (sn : Int) = decide (ins / 2 ^ sn % 2 = 1) := by simp [thereM]
    rw [hth] at hM
    clear hth hsg c6 hcu hfz hgl
    generalize ins / 2 ^ sn % 2 = bt at *
    rcases hbd with rfl | rfl
    · have HM := Lib.hid hM; clear hM
      go_enter Try.func74, Try.ntmps74
      go_wp2_with fail
      have z1 : (wr.alloc (.cells #[.int .i64 4, .int .i64 (sn : Int)] 64)).cell? ⟨wr.heap.size, 1, none⟩ = some (.int .i64 (sn : Int)) := by go_simp
      generalize wr.alloc (.cells #[.int .i64 4, .int .i64 (sn : Int)] 64) = W4 at *
      have HS4 := HS.out.more hx1
      have y6 := HS4.c6; have y4 := HS4.c4; have yb4 := hx1.keeps _ _ yb
      obtain ⟨⟨u, hu, hcu⟩, hfz, -⟩ := own_at HS4.W hkn
      have HS5 := Lib.hid HS4; have HX4 := Lib.hid hx1
      clear hx1 HS4 hu yb
      go_still_tail 16, (by kernel_rfl)
      have v6 : (W4.setCell ⟨g1, k, none⟩ (Value.bool true)).cell? ⟨b, 6, none⟩ = some (.slice (some ⟨g1, 0, none⟩) n n) := (HS5.out.setW k).c6
      change wpList _ _ _ _ _ W4.drew
      go_wp2_with fail
      have HS6 := (HS5.out.setW k).more ((Ext.refl (W4.setCell ⟨g1, k, none⟩ (Bv true))).drew)
      have v7 : (W4.setCell ⟨g1, k, none⟩ (Value.bool true)).cell? ⟨g1, k, none⟩ = some (Value.bool true) := World.cell?_setCell_same _ _ _ hcu
      go_wp2
      go_ret
      exact ⟨by rw [← HM.out]; rfl, by rw [← HM.out]; exact HS6, ((Off.of_ext HX4.out).set1 k _).drew⟩
    · have HM := Lib.hid hM; clear hM
      go_enter Try.func74, Try.ntmps74
      go_wp2_with fail
      have z1 : (wr.alloc (.cells #[.int .i64 4, .int .i64 (sn : Int)] 64)).cell? ⟨wr.heap.size, 1, none⟩ = some (.int .i64 (sn : Int)) := by go_simp
      generalize wr.alloc (.cells #[.int .i64 4, .int .i64 (sn : Int)] 64) = W4 at *
      have HS4 := HS.out.more hx1
      have y6 := HS4.c6; have y4 := HS4.c4; have yb4 := hx1.keeps _ _ yb
      obtain ⟨⟨u, hu, hcu⟩, hfz, -⟩ := own_at HS4.W hkn
      have HS5 := Lib.hid HS4; have HX4 := Lib.hid hx1
      clear hx1 HS4 hu yb
      go_still_tail 16, (by kernel_rfl)
      have v6 : (W4.setCell ⟨g1, k, none⟩ (Value.bool false)).cell? ⟨b, 6, none⟩ = some (.slice (some ⟨g1, 0, none⟩) n n) := (HS5.out.setF HZ.out).c6
      change wpList _ _ _ _ _ W4.drew
      go_wp2_with fail
      have v7 : (W4.setCell ⟨g1, k, none⟩ (Value.bool false)).cell? ⟨g1, k, none⟩ = some (Value.bool false) := World.cell?_setCell_same _ _ _ hcu
      have HS6 := (HS5.out.setF HZ.out).more ((Ext.refl (W4.setCell ⟨g1, k, none⟩ (Bv false))).drew)
      go_wp2
      go_ret
      exact ⟨by rw [← HM.out]; rfl, by rw [← HM.out]; exact (HS5.out.setF HZ.out).more ((Ext.refl (W4.setCell ⟨g1, k, none⟩ (Bv false))).drew), ((Off.of_ext HX4.out).set1 k _).drew⟩
end
end Go.Proofs.Ytlafiddfplhafaa
/- The reference's on walked: two-part nodes. -/
namespace Go.Proofs.Ytlafiddfplhafaa
set_option linter.unusedVariables false
set_option linter.unusedSimpArgs false
open Go.RowKit
attribute [local go_sem ↓] Go.wp_at_zero Go.wp_at_succ
section
variable (w0 : World) (b g1 g2 g3 : Nat) (PA : Option Addr) (n pc : Nat) (fr : Bool) (WA : Option Addr) (wc : Nat) (OA : Option Addr) (oc ic : Nat) (ins : Int) (p : List PNode) (outs V : List Bool)
theorem writes_off {t : Tr} {k : Nat} {s s' : StM} (h : WritesW t k s s') {j : Nat} (hj : j < k ∨ k + t.size ≤ j) (hz : s.W[j]?.getD false = false) : s'.W[j]?.getD false = false := by
  cases hv : s'.W[j]?.getD false with
  | false => rfl
  | true =>
    rcases h.at_ j hv with q | ⟨q1, x, q2, -⟩
    · rw [hz] at q; exact q.symm
    · have := (List.getElem?_eq_some_iff.1 q2).1
      rw [flat_size] at this; omega
set_option maxRecDepth 100000 in
set_option maxHeartbeats 8000000 in
theorem ron_seq (hp : SlN w0 PA n p) (hV : Sl w0 WA n (V.map Bv)) (hVk : waitsOK p V) (hn : n ≤ 14) (hK : p.any badKind = false) (sg : Int) (ta tb : Tr) (k : Nat) (ht : TreeAt p k (.two ⟨5, sg⟩ ta tb)) (ok : (Tr.two ⟨5, sg⟩ ta tb).ok) (hg : ∀ x ∈ (Tr.two ⟨5, sg⟩ ta tb).flat, goodN x)
    (hor : (someT V ta (k + 1) || someT V tb (k + 1 + ta.size)) = true)
    (ia : ROnOK w0 b g1 g2 g3 PA n pc fr WA wc OA oc ic ins outs V ta (k + 1)) (ib : ROnOK w0 b g1 g2 g3 PA n pc fr WA wc OA oc ic ins outs V tb (k + 1 + ta.size)) (jb : RBeginOK w0 b g1 g2 g3 PA n pc fr WA wc OA oc ic ins outs tb (k + 1 + ta.size)) :
    ROnOK w0 b g1 g2 g3 PA n pc fr WA wc OA oc ic ins outs V (.two ⟨5, sg⟩ ta tb) k := by
  intro wr s h hso hz
  have hle := ht.le
  have hpl := hp.1
  have hsa := size_pos ta
  have hkn : k < n := by simp [Tr.size] at hle; omega
  have hk1 : k + 1 < n := by simp [Tr.size] at hle; have := size_pos tb; omega
  have hon := ht.first.one ok.2.1
  have hce := fun W (hW : SlN W PA n p) => end_any PA n pc p (k + 1) W hW (by omega) hK hk1 (by omega)
  rw [hon, show ((k + 1 : Nat) : Int) = (k : Int) + 1 from by omega] at hce
  have htop := ht.top
  have hgs := sub_good hg
  have sa := fun W s' hw => rsome_any w0 b g1 g2 g3 PA n pc fr WA wc OA oc ic ins p V W s' hw hp hV hn hK (k + 1) ta ht.first ok.2.1
  have sb := fun W s' hw => rsome_any w0 b g1 g2 g3 PA n pc fr WA wc OA oc ic ins p V W s' hw hp hV hn hK (k + 1 + ta.size) tb ht.second ok.2.2
  rw [show ((k + 1 : Nat) : Int) = (k : Int) + 1 from by omega] at sa
  rw [show ((k + 1 + ta.size : Nat) : Int) = (k : Int) + 1 + ta.size from by omega] at sb
  have SA := Lib.hid sa; have SB := Lib.hid sb; clear sa sb
  have za : ∀ j : Nat, k + 1 ≤ j → j < k + 1 + ta.size → s.W[j]?.getD false = false := fun j h1 h2 => hz j (by omega) (by simp only [Tr.size]; omega)
  have zb : ∀ j : Nat, k + 1 + ta.size ≤ j → j < k + 1 + ta.size + tb.size → s.W[j]?.getD false = false := fun j h1 h2 => hz j (by omega) (by simp only [Tr.size]; omega)
  have zc : someT V ta (k + 1) = true → ∀ j : Nat, k + 1 + ta.size ≤ j → j < k + 1 + ta.size + tb.size → (onT (thereM ins) (wasM outs) V ta (k + 1) s).2.W[j]?.getD false = false := fun hs => by
    intro j h1 h2
    have hw := on_writes (thereM ins) (wasM outs) hVk ta (k + 1) s ht.first ok.2.1 hgs.1 hs
    exact writes_off hw (by omega) (zb j h1 h2)
  have ZA := Lib.hid za; have ZB := Lib.hid zb; have ZC := Lib.hid zc; clear za zb zc
  have ca := fun W s' hw hs hz => ia W s' hw hs hz
  have cb := fun W s' hw hs hz => ib W s' hw hs hz
  rw [show ((k + 1 : Nat) : Int) = (k : Int) + 1 from by omega] at ca
  rw [show ((k + 1 + ta.size : Nat) : Int) = (k : Int) + 1 + ta.size from by omega] at cb
  have IA := Lib.hid ca; have IB := Lib.hid cb; clear ca cb
  have cj := fun W s' hw => jb W s' hw
  rw [show ((k + 1 + ta.size : Nat) : Int) = (k : Int) + 1 + ta.size from by omega] at cj
  have JB := Lib.hid cj; clear cj
  obtain ⟨pb, poff, y, rfl, d0, d1, -, hy⟩ := hp.next hkn
  have hyx : y = ⟨5, sg⟩ := by rw [htop] at hy; injection hy with hy; exact hy.symm
  subst hyx
  have c0 := h.c0
  have hbl := lt_of_cell c0
  have e0 := h.ext.keeps _ _ d0; have e1 := h.ext.keeps _ _ d1
  have hpl2 := lt_of_cell e0
  have hx1 := (Ext.refl wr).alloc (.cells #[.int .i64 5, .int .i64 sg] 64)
  have CE := Lib.hid (hce _ ((hp.keep h.ext.keeps).keep hx1.keeps))
  have hg1 : g1 < wr.heap.size := (h.W.lt g1 rfl).2
  have hg2 : g2 < wr.heap.size := (h.O.lt g2 rfl).2
  have HS := Lib.hid h; have HG1 := Lib.hid hg1; have HG2 := Lib.hid hg2; clear hg1 hg2
  generalize hM : onT (thereM ins) (wasM outs) V (.two ⟨5, sg⟩ ta tb) k s = M
  simp only [onT, if_true] at hM
  clear hp h ht ok hg hgs hle hpl htop hy d0 d1 ia ib jb hce hsa hon hso hz hV hVk
  cases hsa : someT V ta (k + 1)
  · rw [hsa] at hM hor
    have hsb : someT V tb (k + 1 + ta.size) = true := by simpa using hor
    simp only [Bool.false_eq_true, if_false] at hM
    have HM := Lib.hid hM; have HSA := Lib.hid hsa; have HSB := Lib.hid hsb; clear hM hsa hsb hor
    go_enter Try.func74, Try.ntmps74
    go_wp2_with fail
    refine CE.out.mono ?_; rintro e w' ⟨rfl, rfl⟩
    go_wp2_with fail
    refine (SA.out _ s (HS.out.more hx1)).mono ?_; rintro e w1 ⟨rfl, rfl⟩; rw [HSA.out]
    go_wp2_with fail
    refine (IB.out _ s (HS.out.more hx1) HSB.out ZB.out).mono ?_; rintro e w1 ⟨rfl, hs1, o1⟩
    have HS1 := Lib.hid hs1; have O1 := Lib.hid o1; clear hs1 o1
    go_wp2
    go_ret
    exact ⟨by rw [← HM.out]; rfl, by rw [← HM.out]; exact HS1.out, (Off.of_ext hx1).trans O1.out⟩
  · rw [hsa] at hM
    simp only [if_true] at hM
    clear hor
    have HSA := Lib.hid hsa; clear hsa
    cases hr : (onT (thereM ins) (wasM outs) V ta (k + 1) s).1
    all_goals
      rw [hr] at hM
      have HR := Lib.hid hr; have HM := Lib.hid hM; clear hr hM
      go_enter Try.func74, Try.ntmps74
      go_wp2_with fail
      refine CE.out.mono ?_; rintro e w' ⟨rfl, rfl⟩
      go_wp2_with fail
      refine (SA.out _ s (HS.out.more hx1)).mono ?_; rintro e w1 ⟨rfl, rfl⟩; rw [HSA.out]
      go_wp2_with fail
      refine (IA.out _ s (HS.out.more hx1) HSA.out ZA.out).mono ?_; rintro e w1 ⟨rfl, hs1, o1⟩; rw [HR.out]
      have HS1 := Lib.hid hs1; have O1 := Lib.hid o1; clear hs1 o1
    · go_wp2
      go_ret
      exact ⟨by rw [← HM.out]; rfl, by rw [← HM.out]; exact HS1.out, (Off.of_ext hx1).trans O1.out⟩
    · go_wp2_with fail
      refine (JB.out w1 _ HS1.out).mono ?_; rintro e w2 ⟨rfl, hs2, o2⟩
      have HS2 := Lib.hid hs2; have O2 := Lib.hid o2; clear hs2 o2
      go_wp2
      go_ret
      exact ⟨by rw [← HM.out]; rfl, by rw [← HM.out]; exact HS2.out, ((Off.of_ext hx1).trans O1.out).trans O2.out⟩
set_option maxRecDepth 100000 in
set_option maxHeartbeats 16000000 in
theorem ron_par (hp : SlN w0 PA n p) (hV : Sl w0 WA n (V.map Bv)) (hVk : waitsOK p V) (hn : n ≤ 14) (hK : p.any badKind = false) (kd sg : Int) (hk6 : 6 ≤ kd) (ta tb : Tr) (k : Nat) (ht : TreeAt p k (.two ⟨kd, sg⟩ ta tb)) (ok : (Tr.two ⟨kd, sg⟩ ta tb).ok) (hg : ∀ x ∈ (Tr.two ⟨kd, sg⟩ ta tb).flat, goodN x)
    (ia : ROnOK w0 b g1 g2 g3 PA n pc fr WA wc OA oc ic ins outs V ta (k + 1)) (ib : ROnOK w0 b g1 g2 g3 PA n pc fr WA wc OA oc ic ins outs V tb (k + 1 + ta.size)) :
    ROnOK w0 b g1 g2 g3 PA n pc fr WA wc OA oc ic ins outs V (.two ⟨kd, sg⟩ ta tb) k := by
  intro wr s h hso hz
  have hle := ht.le
  have hpl := hp.1
  have hsa := size_pos ta
  have hkn : k < n := by simp [Tr.size] at hle; omega
  have hk1 : k + 1 < n := by simp [Tr.size] at hle; have := size_pos tb; omega
  have hon := ht.first.one ok.2.1
  have hce := fun W (hW : SlN W PA n p) => end_any PA n pc p (k + 1) W hW (by omega) hK hk1 (by omega)
  rw [hon, show ((k + 1 : Nat) : Int) = (k : Int) + 1 from by omega] at hce
  have htop := ht.top
  have hgs := sub_good hg
  have sa := fun W s' hw => rsome_any w0 b g1 g2 g3 PA n pc fr WA wc OA oc ic ins p V W s' hw hp hV hn hK (k + 1) ta ht.first ok.2.1
  have sb := fun W s' hw => rsome_any w0 b g1 g2 g3 PA n pc fr WA wc OA oc ic ins p V W s' hw hp hV hn hK (k + 1 + ta.size) tb ht.second ok.2.2
  rw [show ((k + 1 : Nat) : Int) = (k : Int) + 1 from by omega] at sa
  rw [show ((k + 1 + ta.size : Nat) : Int) = (k : Int) + 1 + ta.size from by omega] at sb
  have SA := Lib.hid sa; have SB := Lib.hid sb; clear sa sb
  have za : ∀ j : Nat, k + 1 ≤ j → j < k + 1 + ta.size → s.W[j]?.getD false = false := fun j h1 h2 => hz j (by omega) (by simp only [Tr.size]; omega)
  have zb : ∀ j : Nat, k + 1 + ta.size ≤ j → j < k + 1 + ta.size + tb.size → s.W[j]?.getD false = false := fun j h1 h2 => hz j (by omega) (by simp only [Tr.size]; omega)
  have zc : someT V ta (k + 1) = true → ∀ j : Nat, k + 1 + ta.size ≤ j → j < k + 1 + ta.size + tb.size → (onT (thereM ins) (wasM outs) V ta (k + 1) s).2.W[j]?.getD false = false := fun hs => by
    intro j h1 h2
    have hw := on_writes (thereM ins) (wasM outs) hVk ta (k + 1) s ht.first ok.2.1 hgs.1 hs
    exact writes_off hw (by omega) (zb j h1 h2)
  have ZA := Lib.hid za; have ZB := Lib.hid zb; have ZC := Lib.hid zc; clear za zb zc
  have ca := fun W s' hw hs hz => ia W s' hw hs hz
  have cb := fun W s' hw hs hz => ib W s' hw hs hz
  rw [show ((k + 1 : Nat) : Int) = (k : Int) + 1 from by omega] at ca
  rw [show ((k + 1 + ta.size : Nat) : Int) = (k : Int) + 1 + ta.size from by omega] at cb
  have IA := Lib.hid ca; have IB := Lib.hid cb; clear ca cb
  obtain ⟨pb, poff, y, rfl, d0, d1, -, hy⟩ := hp.next hkn
  have hyx : y = ⟨kd, sg⟩ := by rw [htop] at hy; injection hy with hy; exact hy.symm
  subst hyx
  have c0 := h.c0
  have hbl := lt_of_cell c0
  have e0 := h.ext.keeps _ _ d0; have e1 := h.ext.keeps _ _ d1
  have hpl2 := lt_of_cell e0
  have hx1 := (Ext.refl wr).alloc (.cells #[.int .i64 kd, .int .i64 sg] 64)
  have CE := Lib.hid (hce _ ((hp.keep h.ext.keeps).keep hx1.keeps))
  have hg1 : g1 < wr.heap.size := (h.W.lt g1 rfl).2
  have hg2 : g2 < wr.heap.size := (h.O.lt g2 rfl).2
  have HS := Lib.hid h; have HG1 := Lib.hid hg1; have HG2 := Lib.hid hg2; clear hg1 hg2
  generalize hM : onT (thereM ins) (wasM outs) V (.two ⟨kd, sg⟩ ta tb) k s = M
  rw [onT_parts _ _ _ _ _ _ _ _ (by simp only; omega)] at hM
  have t1 : (kd == 1) = false := by simp; omega
  have t2 : (kd == 2) = false := by simp; omega
  have t4 : (kd == 4) = false := by simp; omega
  have t5 : (kd == 5) = false := by simp; omega
  clear hp h ht ok hg hgs hle hpl htop hy d0 d1 ia ib hce hsa hon hso hz hV hVk
  cases hsa : someT V ta (k + 1)
  · cases hsb : someT V tb (k + 1 + ta.size)
    · simp only [partT, hsa, hsb, Bool.false_eq_true, if_false, Bool.and_true] at hM
      have HSA := Lib.hid hsa; have HSB := Lib.hid hsb; have HM := Lib.hid hM; clear hM hsa hsb
      go_enter Try.func74, Try.ntmps74
      go_wp2_with fail
      refine CE.out.mono ?_; rintro e w' ⟨rfl, rfl⟩
      go_wp2_with fail
      refine (SA.out _ s (HS.out.more hx1)).mono ?_; rintro e w1 ⟨rfl, rfl⟩; rw [HSA.out]
      go_wp2_with fail
      refine (SB.out _ s (HS.out.more hx1)).mono ?_; rintro e w1 ⟨rfl, rfl⟩; rw [HSB.out]
      go_wp2
      go_ret
      exact ⟨by rw [← HM.out] <;> rfl, by rw [← HM.out]; exact HS.out.more hx1, Off.of_ext hx1⟩
    · simp only [partT, hsa, hsb, Bool.false_eq_true, if_false, if_true, Bool.true_and] at hM
      cases hr : (onT (thereM ins) (wasM outs) V tb (k + 1 + ta.size) s).1
      all_goals
        rw [hr] at hM
        have HR := Lib.hid hr; have HSA := Lib.hid hsa; have HSB := Lib.hid hsb; have HM := Lib.hid hM; clear hM hr
        go_enter Try.func74, Try.ntmps74
        go_wp2_with fail
        refine CE.out.mono ?_; rintro e w' ⟨rfl, rfl⟩
        go_wp2_with fail
        refine (SA.out _ s (HS.out.more hx1)).mono ?_; rintro e w1 ⟨rfl, rfl⟩; rw [HSA.out]
        go_wp2_with fail
        refine (SB.out _ s (HS.out.more hx1)).mono ?_; rintro e w1 ⟨rfl, rfl⟩; rw [HSB.out]
        go_wp2_with fail
        refine (IB.out _ s (HS.out.more hx1) HSB.out ZB.out).mono ?_; rintro e w1 ⟨rfl, hs1, o1⟩; rw [HR.out]
        have HS1 := Lib.hid hs1; have O1 := Lib.hid o1; clear hs1 o1
        go_wp2
        go_ret
        exact ⟨by rw [← HM.out]; rfl, by rw [← HM.out]; exact HS1.out, (Off.of_ext hx1).trans O1.out⟩
  · have hZC := ZC.out hsa
    have ZD := Lib.hid hZC; clear hZC
    cases hsb : someT V tb (k + 1 + ta.size)
    · simp only [partT, hsa, hsb, Bool.false_eq_true, if_false, if_true, Bool.and_true] at hM
      cases hr : (onT (thereM ins) (wasM outs) V ta (k + 1) s).1
      all_goals
        rw [hr] at hM
        have HR := Lib.hid hr; have HSA := Lib.hid hsa; have HSB := Lib.hid hsb; have HM := Lib.hid hM; clear hM hr
        go_enter Try.func74, Try.ntmps74
        go_wp2_with fail
        refine CE.out.mono ?_; rintro e w' ⟨rfl, rfl⟩
        go_wp2_with fail
        refine (SA.out _ s (HS.out.more hx1)).mono ?_; rintro e w1 ⟨rfl, rfl⟩; rw [HSA.out]
        go_wp2_with fail
        refine (IA.out _ s (HS.out.more hx1) HSA.out ZA.out).mono ?_; rintro e w1 ⟨rfl, hs1, o1⟩; rw [HR.out]
        have HS1 := Lib.hid hs1; have O1 := Lib.hid o1; clear hs1 o1
        go_wp2_with fail
        refine (SB.out _ _ HS1.out).mono ?_; rintro e w1 ⟨rfl, rfl⟩; rw [HSB.out]
        go_wp2
        go_ret
        exact ⟨by rw [← HM.out] <;> rfl, by rw [← HM.out]; exact HS1.out, (Off.of_ext hx1).trans O1.out⟩
    · simp only [partT, hsa, hsb, Bool.false_eq_true, if_false, if_true] at hM
      cases hr : (onT (thereM ins) (wasM outs) V ta (k + 1) s).1 <;> cases hr2 : (onT (thereM ins) (wasM outs) V tb (k + 1 + ta.size) (onT (thereM ins) (wasM outs) V ta (k + 1) s).2).1
      all_goals
        rw [hr, hr2] at hM
        have HR := Lib.hid hr; have HR2 := Lib.hid hr2; have HSA := Lib.hid hsa; have HSB := Lib.hid hsb; have HM := Lib.hid hM; clear hM hr hr2
        go_enter Try.func74, Try.ntmps74
        go_wp2_with fail
        refine CE.out.mono ?_; rintro e w' ⟨rfl, rfl⟩
        go_wp2_with fail
        refine (SA.out _ s (HS.out.more hx1)).mono ?_; rintro e w1 ⟨rfl, rfl⟩; rw [HSA.out]
        go_wp2_with fail
        refine (IA.out _ s (HS.out.more hx1) HSA.out ZA.out).mono ?_; rintro e w1 ⟨rfl, hs1, o1⟩; rw [HR.out]
        have HS1 := Lib.hid hs1; have O1 := Lib.hid o1; clear hs1 o1
        go_wp2_with fail
        refine (SB.out _ _ HS1.out).mono ?_; rintro e w2 ⟨rfl, rfl⟩; rw [HSB.out]
        go_wp2_with fail
        refine (IB.out _ _ HS1.out HSB.out ZD.out).mono ?_; rintro e w2 ⟨rfl, hs2, o2⟩; rw [HR2.out]
        have HS2 := Lib.hid hs2; have O2 := Lib.hid o2; clear hs2 o2
        go_wp2
        go_ret
        exact ⟨by rw [← HM.out]; rfl, by rw [← HM.out]; exact HS2.out, ((Off.of_ext hx1).trans O1.out).trans O2.out⟩
theorem ron_any (hp : SlN w0 PA n p) (hO : Sl w0 OA 3 (outs.map Bv)) (hV : Sl w0 WA n (V.map Bv)) (hn : n ≤ 14) (hK : p.any badKind = false) (hVk : waitsOK p V) : ∀ (t : Tr) (k : Nat), TreeAt p k t → t.ok → (∀ x ∈ t.flat, goodN x) → ROnOK w0 b g1 g2 g3 PA n pc fr WA wc OA oc ic ins outs V t k
  | .leaf x, k, ht, ok, hg => ron_leaf w0 b g1 g2 g3 PA n pc fr WA wc OA oc ic ins p outs V hp hn hVk x k ht ok (hg x (by simp [Tr.flat]))
  | .two ⟨kd, sg⟩ ta tb, k, ht, ok, hg => by
    have hgs := sub_good hg
    have hx := hg ⟨kd, sg⟩ (by simp [Tr.flat])
    have ia := ron_any hp hO hV hn hK hVk ta (k + 1) ht.first ok.2.1 hgs.1
    have ib := ron_any hp hO hV hn hK hVk tb (k + 1 + ta.size) ht.second ok.2.2 hgs.2
    have jb := rbegin_any w0 b g1 g2 g3 PA n pc fr WA wc OA oc ic ins p outs hp hO hn hK tb (k + 1 + ta.size) ht.second ok.2.2 hgs.2
    by_cases e : kd = 5
    · subst e
      intro wr s h hso hz
      exact ron_seq w0 b g1 g2 g3 PA n pc fr WA wc OA oc ic ins p outs V hp hV hVk hn hK sg ta tb k ht ok hg (by rcases some_two hVk ht ok hso with q | q <;> simp [q]) ia ib jb wr s h hso hz
    · have h6 : 6 ≤ kd := by rcases good_two' ok.1 hx with q | q | q | q <;> simp only at q <;> omega
      exact ron_par w0 b g1 g2 g3 PA n pc fr WA wc OA oc ic ins p outs V hp hV hVk hn hK kd sg h6 ta tb k ht ok hg ia ib
end
end Go.Proofs.Ytlafiddfplhafaa
/- Fresh, bits, power of the reference; both Checks of a rest. -/
namespace Go.Proofs.Ytlafiddfplhafaa
set_option linter.unusedVariables false
set_option linter.unusedSimpArgs false
open Go.RowKit
set_option maxHeartbeats 2000000 in
theorem rfresh_any (A : Option Addr) (n c : Nat) (w : World) (hn : n ≤ 14) :
    Calls Try.prog 29 #[.slice A n c] w fun e w' => ∃ g1 g2, e = .returned (.agg #[Bv true, .slice (some ⟨g1, 0, none⟩) n n, .slice (some ⟨g2, 0, none⟩) 3 3]) ∧ w.heap.size ≤ g1 ∧ w.heap.size ≤ g2 ∧ g1 ≠ g2 ∧
      w'.ownsRow w.heap.size 4 1 (.slice (some ⟨g1, 0, none⟩) n n) n ((List.replicate n false).map Bv) ∧ w'.ownsRow w.heap.size 4 1 (.slice (some ⟨g2, 0, none⟩) 3 3) 3 (([false, false, false] : List Bool).map Bv) ∧ Ext w w' := by
  have hmk := fun W => run_make1 (P := Try.prog) 31 4 tab_bool Try.underlying31 rfl n (by omega) (by omega) W
  have hm3 : ∀ W, (Instr.makeSlice 31 (.int .i64 3) (.int .i64 3)).run Try.prog W = .ok (.slice (some ⟨W.heap.size, 0, none⟩) 3 3) (W.alloc (.cells (zeros (.bool false) 3) 4)) := fun W => run_make1 (P := Try.prog) 31 4 tab_bool Try.underlying31 rfl 3 (by omega) (by omega) W
  go_enter Try.func29, Try.ntmps29
  go_wp2_with fail
  go_region
  · go_wp2
    refine bodyPost_ret (v := .agg #[Bv true, .slice (some ⟨w.heap.size + 1, 0, none⟩) n n, .slice (some ⟨w.heap.size + 1 + 1, 0, none⟩) 3 3]) (by simp [results, Try.results29, go_sem]) rfl ⟨w.heap.size + 1, w.heap.size + 1 + 1, rfl, by omega, by omega, by omega, ?_, ?_, (((Ext.refl w).alloc _).alloc _).alloc _ |>.drew⟩
    · have := own_ext (own_made (w.alloc (.cells #[.bool true, .slice (some ⟨w.heap.size + 1, 0, none⟩) n n, .slice (some ⟨w.heap.size + 1 + 1, 0, none⟩) 3 3] 59)) 4 (.bool false) n w.heap.size (by simp) (by unfold maxLen; omega)) (((Ext.refl _).alloc (.cells (zeros (.bool false) 3) 4)).drew)
      simpa using this
    · have := own_ext (own_made ((w.alloc (.cells #[.bool true, .slice (some ⟨w.heap.size + 1, 0, none⟩) n n, .slice (some ⟨w.heap.size + 1 + 1, 0, none⟩) 3 3] 59)).alloc (.cells (zeros (.bool false) n) 4)) 4 (.bool false) 3 w.heap.size (by simp; omega) (by unfold maxLen; omega)) ((Ext.refl _).drew)
      simpa using this
  · go_wp2
    refine bodyPost_ret (v := .agg #[Bv true, .slice (some ⟨w.heap.size + 1 + 1, 0, none⟩) n n, .slice (some ⟨w.heap.size + 1, 0, none⟩) 3 3]) (by simp [results, Try.results29, go_sem]) rfl ⟨w.heap.size + 1 + 1, w.heap.size + 1, rfl, by omega, by omega, by omega, ?_, ?_, (((Ext.refl w).alloc _).alloc _).alloc _ |>.drew⟩
    · have := own_ext (own_made ((w.alloc (.cells #[.bool true, .slice (some ⟨w.heap.size + 1 + 1, 0, none⟩) n n, .slice (some ⟨w.heap.size + 1, 0, none⟩) 3 3] 59)).alloc (.cells (zeros (.bool false) 3) 4)) 4 (.bool false) n w.heap.size (by simp; omega) (by unfold maxLen; omega)) ((Ext.refl _).drew)
      simpa using this
    · have := own_ext (own_made (w.alloc (.cells #[.bool true, .slice (some ⟨w.heap.size + 1 + 1, 0, none⟩) n n, .slice (some ⟨w.heap.size + 1, 0, none⟩) 3 3] 59)) 4 (.bool false) 3 w.heap.size (by simp) (by unfold maxLen; omega)) (((Ext.refl _).alloc (.cells (zeros (.bool false) n) 4)).drew)
      simpa using this
end Go.Proofs.Ytlafiddfplhafaa
/- Both Checks of a rest; Begin. -/
namespace Go.Proofs.Ytlafiddfplhafaa
set_option linter.unusedVariables false
set_option linter.unusedSimpArgs false
open Go.RowKit
/-- A node whose wait a rest must not hold. -/
def badWt (fr : Bool) (y : Bool × PNode) : Bool := y.1 && (fr || !waitK y.2.kind)
theorem restBox (w : World) (fr : Bool) (WA : Option Addr) (wn wc : Nat) (OA : Option Addr) (on oc : Nat) {W : World} (h : W = w.alloc (.cells #[Bv fr, .slice WA wn wc, .slice OA on oc] 59)) :
    W.cell? ⟨w.heap.size, 0, none⟩ = some (Bv fr) ∧ W.cell? ⟨w.heap.size, 1, none⟩ = some (.slice WA wn wc) ∧ W.cell? ⟨w.heap.size, 2, none⟩ = some (.slice OA on oc) ∧ w.heap.size < W.heap.size := by
  subst h
  refine ⟨?_, ?_, ?_, by simp⟩
  all_goals (rw [World.cell?_alloc_new]; rfl)
theorem badW_step {fr x : Bool} {V : List Bool} {p : List PNode} {k : Nat} {y : PNode} (hV : V[k]? = some x) (hp : p[k]? = some y) : ((V.drop k).zip (p.drop k)).any (badWt fr) = (badWt fr (x, y) || ((V.drop (k + 1)).zip (p.drop (k + 1))).any (badWt fr)) := by
  have h1 := (List.getElem?_eq_some_iff.1 hV).1
  have h2 := (List.getElem?_eq_some_iff.1 hp).1
  rw [List.drop_eq_getElem_cons h1, List.drop_eq_getElem_cons h2, List.zip_cons_cons, List.any_cons]
  rw [List.getElem?_eq_getElem h1] at hV; rw [List.getElem?_eq_getElem h2] at hp
  injection hV with e1; injection hp with e2
  rw [e1, e2]
set_option maxHeartbeats 4000000 in
theorem rCheckRest_any (PA : Option Addr) (n pc : Nat) (p : List PNode) (fr : Bool) (WA : Option Addr) (wn wc : Nat) (OA : Option Addr) (on oc : Nat) (r : RestM) (w : World)
    (hp : SlN w PA n p) (hr : RestC w fr WA wn wc OA on oc r) (hn : n ≤ maxLen) :
    Calls Try.prog 70 #[.slice PA n pc, restV fr WA wn wc OA on oc] w fun e w' => e = .returned (I (checkR p r)) ∧ Ext w w' := by
  generalize hR : checkR p r = R
  obtain ⟨W, hW⟩ : ∃ W, W = w.alloc (.cells #[Bv fr, .slice WA wn wc, .slice OA on oc] 59) := ⟨_, rfl⟩
  have hxW : Ext w W := by rw [hW]; exact (Ext.refl _).alloc _
  obtain ⟨q0, q1, q2, hsz⟩ := restBox w fr WA wn wc OA on oc hW
  have hpl := hp.1; have hwl := hr.waits.len; have hol := hr.outs.len; have hfr := hr.fresh
  have hwm := hr.wl
  have hom := hr.ol
  have HP := Lib.hid (hp.keep hxW.keeps); have HWA := Lib.hid (hr.waits.keep hxW.keeps)
  have CK := Lib.hid (rcheck_any' PA n pc p W (hp.keep hxW.keeps) hn)
  have HW := Lib.hid hW; clear hp hr hW
  unfold checkR at hR
  unfold maxLen at hn hwm hom
  by_cases h0 : checkP p ≠ 0
  · rw [if_pos h0] at hR
    have HR := Lib.hid hR; clear hR q0 q1 q2
    go_enter Try.func70, Try.ntmps70
    go_wp2_with fail
    rw [← HW.out]
    refine CK.out.mono ?_; rintro e w1 ⟨rfl, rfl⟩
    go_wp2
    go_ret
    exact ⟨ret_int HR.out, hxW⟩
  rw [if_neg h0] at hR
  have h00 : checkP p = 0 := by simpa using h0
  clear h0
  by_cases h1 : r.waits.length ≠ p.length ∨ r.outs.length ≠ 3
  · rw [if_pos h1] at hR
    have HR := Lib.hid hR; have H00 := Lib.hid h00; clear hR h00
    have hd : wn ≠ n ∨ (wn = n ∧ on ≠ 3) := by omega
    clear h1 hpl hwl hol
    rcases hd with hd | ⟨rfl, hd⟩
    all_goals
      go_enter Try.func70, Try.ntmps70
      go_wp2_with fail
      rw [← HW.out]
      refine CK.out.mono ?_; rintro e w1 ⟨rfl, rfl⟩; rw [H00.out]
      go_wp2
      go_ret
      exact ⟨ret_int HR.out, hxW⟩
  rw [if_neg h1] at hR
  have hwn : wn = n := by omega
  have hon : on = 3 := by omega
  subst hwn; subst hon
  have HR : Hid ((if (r.waits.zip p).any (badWt fr) then (1 : Int) else 0) = R) := by unfold Hid; rw [← hR, ← hfr]; rfl
  have H00 := Lib.hid h00; clear hR h00 h1 hpl hwl hol hfr
  go_enter Try.func70, Try.ntmps70
  go_wp2_with fail
  rw [← HW.out]
  refine CK.out.mono ?_; rintro e w1 ⟨rfl, rfl⟩; rw [H00.out]
  go_wp2
  go_loop [6] (fun i => ∃ k : Nat, k ≤ wn ∧ i = .int .i64 k ∧ Hid (((r.waits.drop k).zip (p.drop k)).any (badWt fr) = (r.waits.zip p).any (badWt fr))) (fun i => wn - (intOf i).toNat)
  case atStart => exact ⟨0, Nat.zero_le _, rfl, rfl⟩
  case round =>
    obtain ⟨k, hk, rfl, hM⟩ := hrel
    by_cases hlt : k < wn
    · obtain ⟨wb, woff, x, rfl, d0, hx⟩ := HWA.out.at_ hlt
      obtain ⟨pb, poff, y, rfl, d1, hc1, -, hy⟩ := HP.out.next hlt
      have hst := badW_step (fr := fr) hx hy
      have hdb := lt_of_cell d0; have hdb1 := lt_of_cell d1
      have HST := Lib.hid hst
      clear hst hx hy hc1
      cases x
      · go_wp2
        go_round
        case rel => exact ⟨k + 1, by omega, by go_num, by unfold Hid; rw [← hM.out, HST.out]; simp [badWt]⟩
        case measure => simp [intOf]; omega
      · cases fr
        · cases hwk : waitK y.kind
          · have HWK := Lib.hid hwk; clear hwk
            go_wp2_with (go_at_call 34; with_reducible refine (rwaits_any _ _).mono ?_; rintro e w' ⟨rfl, rfl⟩; rw [HWK.out])
            go_ret
            exact ⟨ret_int (by rw [← HR.out, ← hM.out, HST.out]; simp [badWt, HWK.out]), hxW⟩
          · have HWK := Lib.hid hwk; clear hwk
            go_wp2_with (go_at_call 34; with_reducible refine (rwaits_any _ _).mono ?_; rintro e w' ⟨rfl, rfl⟩; rw [HWK.out])
            go_round
            case rel => exact ⟨k + 1, by omega, by go_num, by unfold Hid; rw [← hM.out, HST.out]; simp [badWt, HWK.out]⟩
            case measure => simp [intOf]; omega
        · go_wp2
          go_ret
          exact ⟨ret_int (by rw [← HR.out, ← hM.out, HST.out]; simp [badWt]), hxW⟩
    · have hkn : k = wn := by omega
      subst hkn
      go_wp2
      go_ret
      exact ⟨ret_int (by rw [← HR.out, ← hM.out]; rw [List.drop_eq_nil_of_le (by have := HP.out.1; omega : p.length ≤ k)]; simp), hxW⟩
end Go.Proofs.Ytlafiddfplhafaa
/- The tree of a program, computed; one step of a walk as the document says; what a step leaves. -/
namespace Go.Proofs.Ytlafiddfplhafaa
set_option linter.unusedVariables false
set_option linter.unusedSimpArgs false
def parseT : Nat → List PNode → Tr × List PNode
  | 0, l => (.leaf ⟨0, 0⟩, l)
  | _ + 1, [] => (.leaf ⟨0, 0⟩, [])
  | f + 1, x :: l => if two x.kind then (.two x (parseT f l).1 (parseT f (parseT f l).2).1, (parseT f (parseT f l).2).2) else (.leaf x, l)
theorem parse_flat : ∀ (t : Tr) (f : Nat) (r : List PNode), t.ok → t.size ≤ f → parseT f (t.flat ++ r) = (t, r)
  | .leaf x, 0, r, _, h => by simp [Tr.size] at h
  | .two x a b, 0, r, _, h => by simp [Tr.size] at h
  | .leaf x, f + 1, r, ok, _ => by
    have ok' : two x.kind = false := ok
    simp [Tr.flat, parseT, ok']
  | .two x a b, f + 1, r, ok, h => by
    obtain ⟨o1, o2, o3⟩ := ok
    simp only [Tr.size] at h
    have h1 := parse_flat a f (b.flat ++ r) o2 (by omega)
    have h2 := parse_flat b f r o3 (by omega)
    simp only [Tr.flat, List.cons_append, List.append_assoc, parseT, o1, if_true, h1, h2]
def treeOf (p : List PNode) : Tr := (parseT 15 p).1
theorem treeOf_flat {t : Tr} (ok : t.ok) (h : t.size ≤ 14) : treeOf t.flat = t := by
  have := parse_flat t 15 [] ok (by omega)
  rw [List.append_nil] at this
  simp [treeOf, this]
theorem tree_of {p : List PNode} (h : checkP p = 0) : (treeOf p).ok ∧ p = (treeOf p).flat ∧ (treeOf p).size ≤ 14 ∧ ∀ x ∈ (treeOf p).flat, goodN x := by
  obtain ⟨t, h1, h2, h3, h4⟩ := check_tree h
  have : treeOf p = t := by rw [h2]; exact treeOf_flat h1 h3
  rw [this]; exact ⟨h1, h2, h3, h4⟩
def zeroR : RestM := ⟨false, [], []⟩
def stepM (p : List PNode) (r : RestM) (ins : Int) : RestM × Bool × Int :=
  if checkR p r ≠ 0 then (zeroR, false, checkR p r) else if ins < 0 ∨ 8 ≤ ins then (zeroR, false, 3) else (turnR (treeOf p) r ins, (turnM (treeOf p) r ins).1, 0)
theorem checkR_ok {p : List PNode} {r : RestM} (h : checkR p r = 0) : checkP p = 0 ∧ r.waits.length = p.length ∧ r.outs.length = 3 ∧ (r.waits.zip p).any (fun y => y.1 && (r.fresh || !waitK y.2.kind)) = false := by
  unfold checkR at h
  split at h
  · rename_i h0; exact absurd h h0
  rename_i h0
  split at h
  · cases h
  rename_i h1
  split at h
  · cases h
  rename_i h2
  refine ⟨by simpa using h0, by omega, by omega, by simpa using h2⟩
theorem checkR_waits {p : List PNode} {r : RestM} (h : checkR p r = 0) : waitsOK p r.waits := by
  obtain ⟨-, h2, -, h4⟩ := checkR_ok h
  intro j hj
  have hjl : j < r.waits.length := by
    rcases Nat.lt_or_ge j r.waits.length with q | q
    · exact q
    · rw [List.getElem?_eq_none q] at hj; cases hj
  have hjp : j < p.length := by omega
  refine ⟨p[j], List.getElem?_eq_getElem hjp, ?_⟩
  have := List.any_eq_false.1 h4 (r.waits[j], p[j]) (List.mem_iff_getElem.2 ⟨j, by simp; omega, by simp⟩)
  rw [List.getElem?_eq_getElem hjl] at hj
  simp only [Option.getD_some] at hj
  simp only [hj, Bool.true_and, Bool.or_eq_true, not_or, Bool.not_eq_true] at this
  simpa using this.2
theorem checkR_make {p : List PNode} {r : RestM} (h1 : checkP p = 0) (h2 : r.waits.length = p.length) (h3 : r.outs.length = 3) (hf : r.fresh = false) (hw : waitsOK p r.waits) : checkR p r = 0 := by
  unfold checkR
  rw [if_neg (by simpa using h1), if_neg (by omega), if_neg]
  rw [Bool.not_eq_true]
  refine List.any_eq_false.2 fun y hy => ?_
  obtain ⟨j, hj, e⟩ := List.mem_iff_getElem.1 hy
  rw [List.getElem_zip] at e
  subst e
  simp only [List.length_zip] at hj
  simp only [hf, Bool.false_or, Bool.and_eq_true, Bool.not_eq_true']
  rintro ⟨q1, q2⟩
  obtain ⟨x, hx1, hx2⟩ := hw j (by rw [List.getElem?_eq_getElem (by omega)]; simpa using q1)
  rw [List.getElem?_eq_getElem (by omega)] at hx1
  injection hx1 with hx1
  rw [← hx1] at hx2
  rw [q2] at hx2; cases hx2
theorem writes_waitsOK {t : Tr} {s s' : StM} (h : WritesW t 0 s s') (hs : ∀ j : Nat, s.W[j]?.getD false = false) : waitsOK t.flat s'.W := fun j hj => by
  rcases h.at_ j hj with q | ⟨-, x, q1, q2⟩
  · rw [hs j] at q; cases q
  · exact ⟨x, q1, q2⟩
theorem rep_false (n j : Nat) : (List.replicate n false)[j]?.getD false = false := by
  rw [List.getElem?_replicate]; split <;> rfl
theorem turn_len (t : Tr) (r : RestM) (ins : Int) : (turnM t r ins).2.W.length = t.size ∧ (turnM t r ins).2.O.length = 3 := by
  unfold turnM
  split
  · have := beginT_len (thereM ins) (wasM r.outs) t 0 ⟨List.replicate t.size false, [false, false, false]⟩; simpa using this
  split
  · have := onT_len (thereM ins) (wasM r.outs) r.waits t 0 ⟨List.replicate t.size false, [false, false, false]⟩; simpa using this
  · simp
theorem turn_waits {t : Tr} {r : RestM} (ins : Int) (ok : t.ok) (hg : ∀ x ∈ t.flat, goodN x) (hw : waitsOK t.flat r.waits) : waitsOK t.flat (turnM t r ins).2.W := by
  unfold turnM
  split
  · exact writes_waitsOK (begin_writes _ _ t 0 _ ok hg) (rep_false _)
  split
  · rename_i hs; exact writes_waitsOK (on_writes _ _ hw t 0 _ (TreeAt.root t) ok hg hs) (rep_false _)
  · intro j hj; rw [rep_false] at hj; cases hj
theorem turn_over {t : Tr} {r : RestM} {ins : Int} (h : (turnM t r ins).1 = true) : (turnM t r ins).2.W = List.replicate t.size false := by
  unfold turnM at h ⊢
  split
  · rename_i h1; rw [if_pos h1] at h; exact begin_over _ _ t 0 _ h
  rename_i h1; rw [if_neg h1] at h
  split
  · rename_i h2; rw [if_pos h2] at h; exact on_over _ _ _ t 0 _ h
  · rfl
/-- What comes of a step is right. -/
theorem step_ok {p : List PNode} {r : RestM} {ins : Int} (h : (stepM p r ins).2.2 = 0) : checkR p (stepM p r ins).1 = 0 ∧ (stepM p r ins).1.fresh = false ∧ (stepM p r ins).1.waits.length = p.length ∧ ((stepM p r ins).2.1 = true → (stepM p r ins).1.waits.contains true = false) := by
  unfold stepM at h ⊢
  split at h
  · rename_i h0; exact absurd h h0
  rename_i h0
  split at h
  · cases h
  rename_i h1
  rw [if_neg h0, if_neg h1]
  have hr : checkR p r = 0 := by simpa using h0
  obtain ⟨c1, c2, c3, c4⟩ := checkR_ok hr
  obtain ⟨t1, t2, t3, t4⟩ := tree_of c1
  have hw := checkR_waits hr
  have hl := turn_len (treeOf p) r ins
  have hpl : p.length = (treeOf p).size := by rw [← flat_size, ← t2]
  have hw2 : waitsOK p (turnM (treeOf p) r ins).2.W := by
    have := turn_waits (t := treeOf p) (r := r) ins t1 t4 (by rw [← t2]; exact hw)
    rwa [← t2] at this
  refine ⟨checkR_make c1 (by show _ = _; rw [hpl]; exact hl.1) hl.2 rfl hw2, rfl, by rw [hpl]; exact hl.1, fun ho => ?_⟩
  have := turn_over (t := treeOf p) (r := r) (ins := ins) ho
  show (turnM (treeOf p) r ins).2.W.contains true = false
  rw [this]; simp
end Go.Proofs.Ytlafiddfplhafaa
/- Begin and Step of package walk. -/
namespace Go.Proofs.Ytlafiddfplhafaa
set_option linter.unusedVariables false
set_option linter.unusedSimpArgs false
open Go.RowKit
theorem Sl.far {w : World} {b off n : Nat} {cs : List Value} (h : Sl w (some ⟨b, off, none⟩) n cs) {g j : Nat} (hg : g ≠ b) (v : Value) : Sl (w.setCell ⟨g, j, none⟩ v) (some ⟨b, off, none⟩) n cs :=
  ⟨h.1, fun k u hu => by
    obtain ⟨b', off', e, hc⟩ := h.2 k u hu
    injection e with e; injection e with e1 e2
    subst e1; subst e2
    exact ⟨_, _, rfl, by rw [World.cell?_setCell_far _ _ _ _ hg]; exact hc⟩⟩
theorem RestC.far {w : World} {fr : Bool} {g1 g2 wn wc on oc : Nat} {r : RestM} (h : RestC w fr (some ⟨g1, 0, none⟩) wn wc (some ⟨g2, 0, none⟩) on oc r) {g j : Nat} (h1 : g ≠ g1) (h2 : g ≠ g2) (v : Value) :
    RestC (w.setCell ⟨g, j, none⟩ v) fr (some ⟨g1, 0, none⟩) wn wc (some ⟨g2, 0, none⟩) on oc r :=
  ⟨h.fresh, h.waits.far h1 v, h.outs.far h2 v, h.wl, h.ol⟩
theorem RestC.zero (w : World) : RestC w false none 0 0 none 0 0 zeroR := ⟨rfl, Sl.nil _ _, Sl.nil _ _, ⟨Nat.le_refl _, Nat.zero_le _⟩, ⟨Nat.le_refl _, Nat.zero_le _⟩⟩
/-- What is told of a rest with an error, and of a rest, a bit and an error. -/
def NewA (w : World) (A : Option Addr) : Prop := ∀ a, A = some a → w.heap.size ≤ a.block
theorem NewA.no (w : World) : NewA w none := fun a h => by cases h
theorem NewA.at {w : World} {g o : Nat} (h : w.heap.size ≤ g) : NewA w (some ⟨g, o, none⟩) := fun a e => by injection e with e; rw [← e]; exact h
theorem Sl.far' {w : World} {A : Option Addr} {n : Nat} {cs : List Value} (h : Sl w A n cs) {g j : Nat} (hg : ∀ a, A = some a → g ≠ a.block) (v : Value) : Sl (w.setCell ⟨g, j, none⟩ v) A n cs :=
  ⟨h.1, fun k u hu => by
    obtain ⟨b', off', e, hc⟩ := h.2 k u hu
    exact ⟨_, _, e, by rw [World.cell?_setCell_far _ _ _ _ (hg _ e)]; exact hc⟩⟩
theorem RestC.far' {w : World} {fr : Bool} {WA OA : Option Addr} {wn wc on oc : Nat} {r : RestM} (h : RestC w fr WA wn wc OA on oc r) {g j : Nat} (h1 : ∀ a, WA = some a → g ≠ a.block) (h2 : ∀ a, OA = some a → g ≠ a.block) (v : Value) :
    RestC (w.setCell ⟨g, j, none⟩ v) fr WA wn wc OA on oc r :=
  ⟨h.fresh, h.waits.far' h1 v, h.outs.far' h2 v, h.wl, h.ol⟩
def RestB (w w' : World) (e : Ending) (r : RestM) (b : Bool) (x : Int) : Prop :=
  ∃ fr WA wn wc OA on oc, e = .returned (Pr3 (restV fr WA wn wc OA on oc) (Bv b) (I x)) ∧ RestC w' fr WA wn wc OA on oc r ∧ NewA w WA ∧ NewA w OA ∧ Ext w w'
end Go.Proofs.Ytlafiddfplhafaa
