/- The reference's on walked. -/
import Derived.Test.YtlafiddfplhafaaFa10
import Derived.Test.YtlafiddfplhafaaFa08
import Derived.Test.YtlafiddfplhafaaFa02
import Derived.Test.YtlafiddfplhafaaFa09
import Derived.Test.YtlafiddfplhafaaFa01
import Derived.Test.YtlafiddfplhafaaFa06
namespace Go.Proofs.Ytlafiddfplhafaa
set_option linter.unusedVariables false
set_option linter.unusedSimpArgs false
set_option linter.unusedVariables false
set_option linter.unusedSimpArgs false
open Go.RowKit
attribute [local go_sem ↓] Go.wp_at_zero Go.wp_at_succ
section
variable (w0 : World) (b g1 g2 g3 : Nat) (PA : Option Addr) (n pc : Nat) (fr : Bool) (WA : Option Addr) (wc : Nat) (OA : Option Addr) (oc ic : Nat) (ins : Int) (p : List PNode) (outs V : List Bool)
set_option maxRecDepth 100000 in
set_option maxHeartbeats 4000000 in
theorem ron_leaf (hp : SlN w0 PA n p) (hn : n ≤ 14) (hVk : waitsOK p V) (x : PNode) (k : Nat) (ht : TreeAt p k (.leaf x)) (ok : (Tr.leaf x).ok) (hg : goodN x) : ROnOK w0 b g1 g2 g3 PA n pc fr WA wc OA oc ic ins outs V (.leaf x) k := by
  intro wr s h hso hz
  have hle := ht.le
  have hpl := hp.1
  have hkn : k < n := by simp [Tr.size] at hle; omega
  have hsg := leaf_sig' hg
  have htop := ht.top
  have hzk := hz k (Nat.le_refl _) (by simp [Tr.size])
  have hw : waitK x.kind = true := by
    obtain ⟨y, h1, h2⟩ := hVk k (some_leaf hso)
    rw [htop] at h1; injection h1 with h1; rw [← h1] at h2; exact h2
  have hk : x.kind = 1 ∨ x.kind = 2 ∨ x.kind = 4 := by simpa [waitK, or_assoc] using hw
  obtain ⟨pb, poff, y, rfl, d0, d1, -, hy⟩ := hp.next hkn
  have hyx : y = x := by rw [htop] at hy; injection hy with hy; exact hy.symm
  subst hyx
  have c0 := h.c0; have c6 := h.c6
  have hbl := lt_of_cell c0
  have e0 := h.ext.keeps _ _ d0; have e1 := h.ext.keeps _ _ d1
  have hpl2 := lt_of_cell e0
  have HS := Lib.hid h; have HZ := Lib.hid hzk
  obtain ⟨⟨u, hu, hcu⟩, hfz, -⟩ := own_at h.W hkn
  have hgl := lt_of_cell hcu
  obtain ⟨kd, sg⟩ := y
  simp only at hsg
  generalize hM : onT (thereM ins) (wasM outs) V (.leaf ⟨kd, sg⟩) k s = M
  simp only [onT] at hM
  clear hp h ht ok hg hle hpl htop hy d0 d1 hu hVk hw hso hz hzk
  rcases hk with rfl | rfl | rfl
  · have HM := Lib.hid hM; clear hM c6 hcu hfz hsg
    go_enter Try.func74, Try.ntmps74
    go_wp2
    go_ret
    exact ⟨by rw [← HM.out]; rfl, by rw [← HM.out]; exact HS.out.more ((Ext.refl wr).alloc _), .of_ext ((Ext.refl wr).alloc _)⟩
  · have HM := Lib.hid hM; clear hM hsg
    go_enter Try.func74, Try.ntmps74
    go_wp2
    go_ret
    exact ⟨by rw [← HM.out]; rfl, by rw [← HM.out]; exact (HS.out.setW k).more ((Ext.refl _).alloc _), ((Off.refl g1 g2 wr).set1 k _).alloc _⟩
  · simp only [Int.reduceEq, if_false] at hM
    obtain ⟨sn, rfl⟩ := Int.eq_ofNat_of_zero_le hsg.1
    have hsn : sn < 3 := by have := hsg.2; omega
    have hq0 : (0 : Int) ≤ (sn : Int) := by omega
    have hq3 : (sn : Int) < 3 := by omega
    have hx1 := (Ext.refl wr).alloc (.cells #[.int .i64 4, .int .i64 (sn : Int)] 64)
    have hbd : ins / 2 ^ sn % 2 = 0 ∨ ins / 2 ^ sn % 2 = 1 := by omega
    have yb := HS.out.bit hsn
    have hk0 : (0 : Int) ≤ (k : Int) := by omega
    have hkn' : (k : Int) < (n : Int) := by omega
    have hth : thereM ins (sn : Int) = decide (ins / 2 ^ sn % 2 = 1) := by simp [thereM]
    rw [hth] at hM
    clear hth hsg c6 hcu hfz hgl
    generalize ins / 2 ^ sn % 2 = bt at *
    rcases hbd with rfl | rfl
    · have HM := Lib.hid hM; clear hM
      go_enter Try.func74, Try.ntmps74
      go_wp2_with fail
      have z1 : (wr.alloc (.cells #[.int .i64 4, .int .i64 (sn : Int)] 64)).cell? ⟨wr.heap.size, 1, none⟩ = some (.int .i64 (sn : Int)) := by go_simp
      generalize wr.alloc (.cells #[.int .i64 4, .int .i64 (sn : Int)] 64) = W4 at *
      have HS4 := HS.out.more hx1
      have y6 := HS4.c6; have y4 := HS4.c4; have yb4 := hx1.keeps _ _ yb
      obtain ⟨⟨u, hu, hcu⟩, hfz, -⟩ := own_at HS4.W hkn
      have HS5 := Lib.hid HS4; have HX4 := Lib.hid hx1
      clear hx1 HS4 hu yb
      go_still_tail 16, (by kernel_rfl)
      have v6 : (W4.setCell ⟨g1, k, none⟩ (Value.bool true)).cell? ⟨b, 6, none⟩ = some (.slice (some ⟨g1, 0, none⟩) n n) := (HS5.out.setW k).c6
      change wpList _ _ _ _ _ W4.drew
      go_wp2_with fail
      have HS6 := (HS5.out.setW k).more ((Ext.refl (W4.setCell ⟨g1, k, none⟩ (Bv true))).drew)
      have v7 : (W4.setCell ⟨g1, k, none⟩ (Value.bool true)).cell? ⟨g1, k, none⟩ = some (Value.bool true) := World.cell?_setCell_same _ _ _ hcu
      go_wp2
      go_ret
      exact ⟨by rw [← HM.out]; rfl, by rw [← HM.out]; exact HS6, ((Off.of_ext HX4.out).set1 k _).drew⟩
    · have HM := Lib.hid hM; clear hM
      go_enter Try.func74, Try.ntmps74
      go_wp2_with fail
      have z1 : (wr.alloc (.cells #[.int .i64 4, .int .i64 (sn : Int)] 64)).cell? ⟨wr.heap.size, 1, none⟩ = some (.int .i64 (sn : Int)) := by go_simp
      generalize wr.alloc (.cells #[.int .i64 4, .int .i64 (sn : Int)] 64) = W4 at *
      have HS4 := HS.out.more hx1
      have y6 := HS4.c6; have y4 := HS4.c4; have yb4 := hx1.keeps _ _ yb
      obtain ⟨⟨u, hu, hcu⟩, hfz, -⟩ := own_at HS4.W hkn
      have HS5 := Lib.hid HS4; have HX4 := Lib.hid hx1
      clear hx1 HS4 hu yb
      go_still_tail 16, (by kernel_rfl)
      have v6 : (W4.setCell ⟨g1, k, none⟩ (Value.bool false)).cell? ⟨b, 6, none⟩ = some (.slice (some ⟨g1, 0, none⟩) n n) := (HS5.out.setF HZ.out).c6
      change wpList _ _ _ _ _ W4.drew
      go_wp2_with fail
      have v7 : (W4.setCell ⟨g1, k, none⟩ (Value.bool false)).cell? ⟨g1, k, none⟩ = some (Value.bool false) := World.cell?_setCell_same _ _ _ hcu
      have HS6 := (HS5.out.setF HZ.out).more ((Ext.refl (W4.setCell ⟨g1, k, none⟩ (Bv false))).drew)
      go_wp2
      go_ret
      exact ⟨by rw [← HM.out]; rfl, by rw [← HM.out]; exact (HS5.out.setF HZ.out).more ((Ext.refl (W4.setCell ⟨g1, k, none⟩ (Bv false))).drew), ((Off.of_ext HX4.out).set1 k _).drew⟩
end
end Go.Proofs.Ytlafiddfplhafaa
/- The reference's on walked: two-part nodes. -/
namespace Go.Proofs.Ytlafiddfplhafaa
set_option linter.unusedVariables false
set_option linter.unusedSimpArgs false
open Go.RowKit
attribute [local go_sem ↓] Go.wp_at_zero Go.wp_at_succ
section
variable (w0 : World) (b g1 g2 g3 : Nat) (PA : Option Addr) (n pc : Nat) (fr : Bool) (WA : Option Addr) (wc : Nat) (OA : Option Addr) (oc ic : Nat) (ins : Int) (p : List PNode) (outs V : List Bool)
theorem writes_off {t : Tr} {k : Nat} {s s' : StM} (h : WritesW t k s s') {j : Nat} (hj : j < k ∨ k + t.size ≤ j) (hz : s.W[j]?.getD false = false) : s'.W[j]?.getD false = false := by
  cases hv : s'.W[j]?.getD false with
  | false => rfl
  | true =>
    rcases h.at_ j hv with q | ⟨q1, x, q2, -⟩
    · rw [hz] at q; exact q.symm
    · have := (List.getElem?_eq_some_iff.1 q2).1
      rw [flat_size] at this; omega
set_option maxRecDepth 100000 in
set_option maxHeartbeats 8000000 in
theorem ron_seq (hp : SlN w0 PA n p) (hV : Sl w0 WA n (V.map Bv)) (hVk : waitsOK p V) (hn : n ≤ 14) (hK : p.any badKind = false) (sg : Int) (ta tb : Tr) (k : Nat) (ht : TreeAt p k (.two ⟨5, sg⟩ ta tb)) (ok : (Tr.two ⟨5, sg⟩ ta tb).ok) (hg : ∀ x ∈ (Tr.two ⟨5, sg⟩ ta tb).flat, goodN x)
    (hor : (someT V ta (k + 1) || someT V tb (k + 1 + ta.size)) = true)
    (ia : ROnOK w0 b g1 g2 g3 PA n pc fr WA wc OA oc ic ins outs V ta (k + 1)) (ib : ROnOK w0 b g1 g2 g3 PA n pc fr WA wc OA oc ic ins outs V tb (k + 1 + ta.size)) (jb : RBeginOK w0 b g1 g2 g3 PA n pc fr WA wc OA oc ic ins outs tb (k + 1 + ta.size)) :
    ROnOK w0 b g1 g2 g3 PA n pc fr WA wc OA oc ic ins outs V (.two ⟨5, sg⟩ ta tb) k := by
  intro wr s h hso hz
  have hle := ht.le
  have hpl := hp.1
  have hsa := size_pos ta
  have hkn : k < n := by simp [Tr.size] at hle; omega
  have hk1 : k + 1 < n := by simp [Tr.size] at hle; have := size_pos tb; omega
  have hon := ht.first.one ok.2.1
  have hce := fun W (hW : SlN W PA n p) => end_any PA n pc p (k + 1) W hW (by omega) hK hk1 (by omega)
  rw [hon, show ((k + 1 : Nat) : Int) = (k : Int) + 1 from by omega] at hce
  have htop := ht.top
  have hgs := sub_good hg
  have sa := fun W s' hw => rsome_any w0 b g1 g2 g3 PA n pc fr WA wc OA oc ic ins p V W s' hw hp hV hn hK (k + 1) ta ht.first ok.2.1
  have sb := fun W s' hw => rsome_any w0 b g1 g2 g3 PA n pc fr WA wc OA oc ic ins p V W s' hw hp hV hn hK (k + 1 + ta.size) tb ht.second ok.2.2
  rw [show ((k + 1 : Nat) : Int) = (k : Int) + 1 from by omega] at sa
  rw [show ((k + 1 + ta.size : Nat) : Int) = (k : Int) + 1 + ta.size from by omega] at sb
  have SA := Lib.hid sa; have SB := Lib.hid sb; clear sa sb
  have za : ∀ j : Nat, k + 1 ≤ j → j < k + 1 + ta.size → s.W[j]?.getD false = false := fun j h1 h2 => hz j (by omega) (by simp only [Tr.size]; omega)
  have zb : ∀ j : Nat, k + 1 + ta.size ≤ j → j < k + 1 + ta.size + tb.size → s.W[j]?.getD false = false := fun j h1 h2 => hz j (by omega) (by simp only [Tr.size]; omega)
  have zc : someT V ta (k + 1) = true → ∀ j : Nat, k + 1 + ta.size ≤ j → j < k + 1 + ta.size + tb.size → (onT (thereM ins) (wasM outs) V ta (k + 1) s).2.W[j]?.getD false = false := fun hs => by
    intro j h1 h2
    have hw := on_writes (thereM ins) (wasM outs) hVk ta (k + 1) s ht.first ok.2.1 hgs.1 hs
    exact writes_off hw (by omega) (zb j h1 h2)
  have ZA := Lib.hid za; have ZB := Lib.hid zb; have ZC := Lib.hid zc; clear za zb zc
  have ca := fun W s' hw hs hz => ia W s' hw hs hz
  have cb := fun W s' hw hs hz => ib W s' hw hs hz
  rw [show ((k + 1 : Nat) : Int) = (k : Int) + 1 from by omega] at ca
  rw [show ((k + 1 + ta.size : Nat) : Int) = (k : Int) + 1 + ta.size from by omega] at cb
  have IA := Lib.hid ca; have IB := Lib.hid cb; clear ca cb
  have cj := fun W s' hw => jb W s' hw
  rw [show ((k + 1 + ta.size : Nat) : Int) = (k : Int) + 1 + ta.size from by omega] at cj
  have JB := Lib.hid cj; clear cj
  obtain ⟨pb, poff, y, rfl, d0, d1, -, hy⟩ := hp.next hkn
  have hyx : y = ⟨5, sg⟩ := by rw [htop] at hy; injection hy with hy; exact hy.symm
  subst hyx
  have c0 := h.c0
  have hbl := lt_of_cell c0
  have e0 := h.ext.keeps _ _ d0; have e1 := h.ext.keeps _ _ d1
  have hpl2 := lt_of_cell e0
  have hx1 := (Ext.refl wr).alloc (.cells #[.int .i64 5, .int .i64 sg] 64)
  have CE := Lib.hid (hce _ ((hp.keep h.ext.keeps).keep hx1.keeps))
  have hg1 : g1 < wr.heap.size := (h.W.lt g1 rfl).2
  have hg2 : g2 < wr.heap.size := (h.O.lt g2 rfl).2
  have HS := Lib.hid h; have HG1 := Lib.hid hg1; have HG2 := Lib.hid hg2; clear hg1 hg2
  generalize hM : onT (thereM ins) (wasM outs) V (.two ⟨5, sg⟩ ta tb) k s = M
  simp only [onT, if_true] at hM
  clear hp h ht ok hg hgs hle hpl htop hy d0 d1 ia ib jb hce hsa hon hso hz hV hVk
  cases hsa : someT V ta (k + 1)
  · rw [hsa] at hM hor
    have hsb : someT V tb (k + 1 + ta.size) = true := by simpa using hor
    simp only [Bool.false_eq_true, if_false] at hM
    have HM := Lib.hid hM; have HSA := Lib.hid hsa; have HSB := Lib.hid hsb; clear hM hsa hsb hor
    go_enter Try.func74, Try.ntmps74
    go_wp2_with fail
    refine CE.out.mono ?_; rintro e w' ⟨rfl, rfl⟩
    go_wp2_with fail
    refine (SA.out _ s (HS.out.more hx1)).mono ?_; rintro e w1 ⟨rfl, rfl⟩; rw [HSA.out]
    go_wp2_with fail
    refine (IB.out _ s (HS.out.more hx1) HSB.out ZB.out).mono ?_; rintro e w1 ⟨rfl, hs1, o1⟩
    have HS1 := Lib.hid hs1; have O1 := Lib.hid o1; clear hs1 o1
    go_wp2
    go_ret
    exact ⟨by rw [← HM.out]; rfl, by rw [← HM.out]; exact HS1.out, (Off.of_ext hx1).trans O1.out⟩
  · rw [hsa] at hM
    simp only [if_true] at hM
    clear hor
    have HSA := Lib.hid hsa; clear hsa
    cases hr : (onT (thereM ins) (wasM outs) V ta (k + 1) s).1
    all_goals
      rw [hr] at hM
      have HR := Lib.hid hr; have HM := Lib.hid hM; clear hr hM
      go_enter Try.func74, Try.ntmps74
      go_wp2_with fail
      refine CE.out.mono ?_; rintro e w' ⟨rfl, rfl⟩
      go_wp2_with fail
      refine (SA.out _ s (HS.out.more hx1)).mono ?_; rintro e w1 ⟨rfl, rfl⟩; rw [HSA.out]
      go_wp2_with fail
      refine (IA.out _ s (HS.out.more hx1) HSA.out ZA.out).mono ?_; rintro e w1 ⟨rfl, hs1, o1⟩; rw [HR.out]
      have HS1 := Lib.hid hs1; have O1 := Lib.hid o1; clear hs1 o1
    · go_wp2
      go_ret
      exact ⟨by rw [← HM.out]; rfl, by rw [← HM.out]; exact HS1.out, (Off.of_ext hx1).trans O1.out⟩
    · go_wp2_with fail
      refine (JB.out w1 _ HS1.out).mono ?_; rintro e w2 ⟨rfl, hs2, o2⟩
      have HS2 := Lib.hid hs2; have O2 := Lib.hid o2; clear hs2 o2
      go_wp2
      go_ret
      exact ⟨by rw [← HM.out]; rfl, by rw [← HM.out]; exact HS2.out, ((Off.of_ext hx1).trans O1.out).trans O2.out⟩
set_option maxRecDepth 100000 in
set_option maxHeartbeats 16000000 in
theorem ron_par (hp : SlN w0 PA n p) (hV : Sl w0 WA n (V.map Bv)) (hVk : waitsOK p V) (hn : n ≤ 14) (hK : p.any badKind = false) (kd sg : Int) (hk6 : 6 ≤ kd) (ta tb : Tr) (k : Nat) (ht : TreeAt p k (.two ⟨kd, sg⟩ ta tb)) (ok : (Tr.two ⟨kd, sg⟩ ta tb).ok) (hg : ∀ x ∈ (Tr.two ⟨kd, sg⟩ ta tb).flat, goodN x)
    (ia : ROnOK w0 b g1 g2 g3 PA n pc fr WA wc OA oc ic ins outs V ta (k + 1)) (ib : ROnOK w0 b g1 g2 g3 PA n pc fr WA wc OA oc ic ins outs V tb (k + 1 + ta.size)) :
    ROnOK w0 b g1 g2 g3 PA n pc fr WA wc OA oc ic ins outs V (.two ⟨kd, sg⟩ ta tb) k := by
  intro wr s h hso hz
  have hle := ht.le
  have hpl := hp.1
  have hsa := size_pos ta
  have hkn : k < n := by simp [Tr.size] at hle; omega
  have hk1 : k + 1 < n := by simp [Tr.size] at hle; have := size_pos tb; omega
  have hon := ht.first.one ok.2.1
  have hce := fun W (hW : SlN W PA n p) => end_any PA n pc p (k + 1) W hW (by omega) hK hk1 (by omega)
  rw [hon, show ((k + 1 : Nat) : Int) = (k : Int) + 1 from by omega] at hce
  have htop := ht.top
  have hgs := sub_good hg
  have sa := fun W s' hw => rsome_any w0 b g1 g2 g3 PA n pc fr WA wc OA oc ic ins p V W s' hw hp hV hn hK (k + 1) ta ht.first ok.2.1
  have sb := fun W s' hw => rsome_any w0 b g1 g2 g3 PA n pc fr WA wc OA oc ic ins p V W s' hw hp hV hn hK (k + 1 + ta.size) tb ht.second ok.2.2
  rw [show ((k + 1 : Nat) : Int) = (k : Int) + 1 from by omega] at sa
  rw [show ((k + 1 + ta.size : Nat) : Int) = (k : Int) + 1 + ta.size from by omega] at sb
  have SA := Lib.hid sa; have SB := Lib.hid sb; clear sa sb
  have za : ∀ j : Nat, k + 1 ≤ j → j < k + 1 + ta.size → s.W[j]?.getD false = false := fun j h1 h2 => hz j (by omega) (by simp only [Tr.size]; omega)
  have zb : ∀ j : Nat, k + 1 + ta.size ≤ j → j < k + 1 + ta.size + tb.size → s.W[j]?.getD false = false := fun j h1 h2 => hz j (by omega) (by simp only [Tr.size]; omega)
  have zc : someT V ta (k + 1) = true → ∀ j : Nat, k + 1 + ta.size ≤ j → j < k + 1 + ta.size + tb.size → (onT (thereM ins) (wasM outs) V ta (k + 1) s).2.W[j]?.getD false = false := fun hs => by
    intro j h1 h2
    have hw := on_writes (thereM ins) (wasM outs) hVk ta (k + 1) s ht.first ok.2.1 hgs.1 hs
    exact writes_off hw (by omega) (zb j h1 h2)
  have ZA := Lib.hid za; have ZB := Lib.hid zb; have ZC := Lib.hid zc; clear za zb zc
  have ca := fun W s' hw hs hz => ia W s' hw hs hz
  have cb := fun W s' hw hs hz => ib W s' hw hs hz
  rw [show ((k + 1 : Nat) : Int) = (k : Int) + 1 from by omega] at ca
  rw [show ((k + 1 + ta.size : Nat) : Int) = (k : Int) + 1 + ta.size from by omega] at cb
  have IA := Lib.hid ca; have IB := Lib.hid cb; clear ca cb
  obtain ⟨pb, poff, y, rfl, d0, d1, -, hy⟩ := hp.next hkn
  have hyx : y = ⟨kd, sg⟩ := by rw [htop] at hy; injection hy with hy; exact hy.symm
  subst hyx
  have c0 := h.c0
  have hbl := lt_of_cell c0
  have e0 := h.ext.keeps _ _ d0; have e1 := h.ext.keeps _ _ d1
  have hpl2 := lt_of_cell e0
  have hx1 := (Ext.refl wr).alloc (.cells #[.int .i64 kd, .int .i64 sg] 64)
  have CE := Lib.hid (hce _ ((hp.keep h.ext.keeps).keep hx1.keeps))
  have hg1 : g1 < wr.heap.size := (h.W.lt g1 rfl).2
  have hg2 : g2 < wr.heap.size := (h.O.lt g2 rfl).2
  have HS := Lib.hid h; have HG1 := Lib.hid hg1; have HG2 := Lib.hid hg2; clear hg1 hg2
  generalize hM : onT (thereM ins) (wasM outs) V (.two ⟨kd, sg⟩ ta tb) k s = M
  rw [onT_parts _ _ _ _ _ _ _ _ (by simp only; omega)] at hM
  have t1 : (kd == 1) = false := by simp; omega
  have t2 : (kd == 2) = false := by simp; omega
  have t4 : (kd == 4) = false := by simp; omega
  have t5 : (kd == 5) = false := by simp; omega
  clear hp h ht ok hg hgs hle hpl htop hy d0 d1 ia ib hce hsa hon hso hz hV hVk
  cases hsa : someT V ta (k + 1)
  · cases hsb : someT V tb (k + 1 + ta.size)
    · simp only [partT, hsa, hsb, Bool.false_eq_true, if_false, Bool.and_true] at hM
      have HSA := Lib.hid hsa; have HSB := Lib.hid hsb; have HM := Lib.hid hM; clear hM hsa hsb
      go_enter Try.func74, Try.ntmps74
      go_wp2_with fail
      refine CE.out.mono ?_; rintro e w' ⟨rfl, rfl⟩
      go_wp2_with fail
      refine (SA.out _ s (HS.out.more hx1)).mono ?_; rintro e w1 ⟨rfl, rfl⟩; rw [HSA.out]
      go_wp2_with fail
      refine (SB.out _ s (HS.out.more hx1)).mono ?_; rintro e w1 ⟨rfl, rfl⟩; rw [HSB.out]
      go_wp2
      go_ret
      exact ⟨by rw [← HM.out] <;> rfl, by rw [← HM.out]; exact HS.out.more hx1, Off.of_ext hx1⟩
    · simp only [partT, hsa, hsb, Bool.false_eq_true, if_false, if_true, Bool.true_and] at hM
      cases hr : (onT (thereM ins) (wasM outs) V tb (k + 1 + ta.size) s).1
      all_goals
        rw [hr] at hM
        have HR := Lib.hid hr; have HSA := Lib.hid hsa; have HSB := Lib.hid hsb; have HM := Lib.hid hM; clear hM hr
        go_enter Try.func74, Try.ntmps74
        go_wp2_with fail
        refine CE.out.mono ?_; rintro e w' ⟨rfl, rfl⟩
        go_wp2_with fail
        refine (SA.out _ s (HS.out.more hx1)).mono ?_; rintro e w1 ⟨rfl, rfl⟩; rw [HSA.out]
        go_wp2_with fail
        refine (SB.out _ s (HS.out.more hx1)).mono ?_; rintro e w1 ⟨rfl, rfl⟩; rw [HSB.out]
        go_wp2_with fail
        refine (IB.out _ s (HS.out.more hx1) HSB.out ZB.out).mono ?_; rintro e w1 ⟨rfl, hs1, o1⟩; rw [HR.out]
        have HS1 := Lib.hid hs1; have O1 := Lib.hid o1; clear hs1 o1
        go_wp2
        go_ret
        exact ⟨by rw [← HM.out]; rfl, by rw [← HM.out]; exact HS1.out, (Off.of_ext hx1).trans O1.out⟩
  · have hZC := ZC.out hsa
    have ZD := Lib.hid hZC; clear hZC
    cases hsb : someT V tb (k + 1 + ta.size)
    · simp only [partT, hsa, hsb, Bool.false_eq_true, if_false, if_true, Bool.and_true] at hM
      cases hr : (onT (thereM ins) (wasM outs) V ta (k + 1) s).1
      all_goals
        rw [hr] at hM
        have HR := Lib.hid hr; have HSA := Lib.hid hsa; have HSB := Lib.hid hsb; have HM := Lib.hid hM; clear hM hr
        go_enter Try.func74, Try.ntmps74
        go_wp2_with fail
        refine CE.out.mono ?_; rintro e w' ⟨rfl, rfl⟩
        go_wp2_with fail
        refine (SA.out _ s (HS.out.more hx1)).mono ?_; rintro e w1 ⟨rfl, rfl⟩; rw [HSA.out]
        go_wp2_with fail
        refine (IA.out _ s (HS.out.more hx1) HSA.out ZA.out).mono ?_; rintro e w1 ⟨rfl, hs1, o1⟩; rw [HR.out]
        have HS1 := Lib.hid hs1; have O1 := Lib.hid o1; clear hs1 o1
        go_wp2_with fail
        refine (SB.out _ _ HS1.out).mono ?_; rintro e w1 ⟨rfl, rfl⟩; rw [HSB.out]
        go_wp2
        go_ret
        exact ⟨by rw [← HM.out] <;> rfl, by rw [← HM.out]; exact HS1.out, (Off.of_ext hx1).trans O1.out⟩
    · simp only [partT, hsa, hsb, Bool.false_eq_true, if_false, if_true] at hM
      cases hr : (onT (thereM ins) (wasM outs) V ta (k + 1) s).1 <;> cases hr2 : (onT (thereM ins) (wasM outs) V tb (k + 1 + ta.size) (onT (thereM ins) (wasM outs) V ta (k + 1) s).2).1
      all_goals
        rw [hr, hr2] at hM
        have HR := Lib.hid hr; have HR2 := Lib.hid hr2; have HSA := Lib.hid hsa; have HSB := Lib.hid hsb; have HM := Lib.hid hM; clear hM hr hr2
        go_enter Try.func74, Try.ntmps74
        go_wp2_with fail
        refine CE.out.mono ?_; rintro e w' ⟨rfl, rfl⟩
        go_wp2_with fail
        refine (SA.out _ s (HS.out.more hx1)).mono ?_; rintro e w1 ⟨rfl, rfl⟩; rw [HSA.out]
        go_wp2_with fail
        refine (IA.out _ s (HS.out.more hx1) HSA.out ZA.out).mono ?_; rintro e w1 ⟨rfl, hs1, o1⟩; rw [HR.out]
        have HS1 := Lib.hid hs1; have O1 := Lib.hid o1; clear hs1 o1
        go_wp2_with fail
        refine (SB.out _ _ HS1.out).mono ?_; rintro e w2 ⟨rfl, rfl⟩; rw [HSB.out]
        go_wp2_with fail
        refine (IB.out _ _ HS1.out HSB.out ZD.out).mono ?_; rintro e w2 ⟨rfl, hs2, o2⟩; rw [HR2.out]
        have HS2 := Lib.hid hs2; have O2 := Lib.hid o2; clear hs2 o2
        go_wp2
        go_ret
        exact ⟨by rw [← HM.out]; rfl, by rw [← HM.out]; exact HS2.out, ((Off.of_ext hx1).trans O1.out).trans O2.out⟩
theorem ron_any (hp : SlN w0 PA n p) (hO : Sl w0 OA 3 (outs.map Bv)) (hV : Sl w0 WA n (V.map Bv)) (hn : n ≤ 14) (hK : p.any badKind = false) (hVk : waitsOK p V) : ∀ (t : Tr) (k : Nat), TreeAt p k t → t.ok → (∀ x ∈ t.flat, goodN x) → ROnOK w0 b g1 g2 g3 PA n pc fr WA wc OA oc ic ins outs V t k
  | .leaf x, k, ht, ok, hg => ron_leaf w0 b g1 g2 g3 PA n pc fr WA wc OA oc ic ins p outs V hp hn hVk x k ht ok (hg x (by simp [Tr.flat]))
  | .two ⟨kd, sg⟩ ta tb, k, ht, ok, hg => by
    have hgs := sub_good hg
    have hx := hg ⟨kd, sg⟩ (by simp [Tr.flat])
    have ia := ron_any hp hO hV hn hK hVk ta (k + 1) ht.first ok.2.1 hgs.1
    have ib := ron_any hp hO hV hn hK hVk tb (k + 1 + ta.size) ht.second ok.2.2 hgs.2
    have jb := rbegin_any w0 b g1 g2 g3 PA n pc fr WA wc OA oc ic ins p outs hp hO hn hK tb (k + 1 + ta.size) ht.second ok.2.2 hgs.2
    by_cases e : kd = 5
    · subst e
      intro wr s h hso hz
      exact ron_seq w0 b g1 g2 g3 PA n pc fr WA wc OA oc ic ins p outs V hp hV hVk hn hK sg ta tb k ht ok hg (by rcases some_two hVk ht ok hso with q | q <;> simp [q]) ia ib jb wr s h hso hz
    · have h6 : 6 ≤ kd := by rcases good_two' ok.1 hx with q | q | q | q <;> simp only at q <;> omega
      exact ron_par w0 b g1 g2 g3 PA n pc fr WA wc OA oc ic ins p outs V hp hV hVk hn hK kd sg h6 ta tb k ht ok hg ia ib
end
end Go.Proofs.Ytlafiddfplhafaa
/- net.Needed and net.Needs walked. -/
namespace Go.Proofs.Ytlafiddfplhafaa
set_option linter.unusedVariables false
set_option linter.unusedSimpArgs false
open Go.RowKit
end Go.Proofs.Ytlafiddfplhafaa
/- net.Needs, and the reference's NeedsError, NeedsOf walked. -/
namespace Go.Proofs.Ytlafiddfplhafaa
set_option linter.unusedVariables false
set_option linter.unusedSimpArgs false
open Go.RowKit
section
variable (i : Int) (GA : Option Addr) (gn gc : Nat) (RA : Option Addr) (rn rc : Nat) (OA : Option Addr) (on oc : Nat) (N : NetM) (A : Option Addr) (n c : Nat) (l : List Int) (w : World)
end
end Go.Proofs.Ytlafiddfplhafaa
/- The reference's NeedsOf walked. -/
namespace Go.Proofs.Ytlafiddfplhafaa
set_option linter.unusedVariables false
set_option linter.unusedSimpArgs false
open Go.RowKit
end Go.Proofs.Ytlafiddfplhafaa
/- Memory that is laid as literals, one block behind the other. No program in sight. -/
namespace Go.Proofs.Ytlafiddfplhafaa
set_option linter.unusedVariables false
set_option linter.unusedSimpArgs false
open Go.RowKit
def allocs (w : World) (os : List Obj) : World := os.foldl World.alloc w
theorem allocs_ext (os : List Obj) : ∀ w : World, Ext w (allocs w os) := by
  induction os with
  | nil => intro w; exact Ext.refl w
  | cons o os ih => intro w; exact ((Ext.refl w).alloc o).trans (ih (w.alloc o))
theorem allocs_heap (os : List Obj) : ∀ (w : World) (j : Nat), (allocs w os).heap[w.heap.size + j]? = os[j]? := by
  induction os with
  | nil => intro w j; show w.heap[w.heap.size + j]? = _; rw [Array.getElem?_eq_none (by omega)]; rfl
  | cons o os ih =>
    intro w j
    have hs : (w.alloc o).heap.size = w.heap.size + 1 := World.size_alloc ..
    cases j with
    | zero =>
      have hb : (allocs (w.alloc o) os).heap[w.heap.size]? = (w.alloc o).heap[w.heap.size]? := (allocs_ext os (w.alloc o)).block w.heap.size (by omega)
      show (allocs (w.alloc o) os).heap[w.heap.size]? = some o
      rw [hb]; exact heap_alloc_new w o
    | succ j =>
      have := ih (w.alloc o) j
      rw [hs] at this
      show (allocs (w.alloc o) os).heap[w.heap.size + (j + 1)]? = os[j]?
      rw [← this]; congr 1; omega
theorem allocs_cell {w : World} {os : List Obj} {j : Nat} {cs : Array Value} {T : TypeId} {fr : Nat × Nat} (h : os[j]? = some (.cells cs T fr)) (off : Nat) : (allocs w os).cell? ⟨w.heap.size + j, off, none⟩ = cs[off]? := by
  have := allocs_heap os w j
  rw [h] at this
  exact cell_of_row _ _ _ _ _ _ this
theorem Sl.lit {w : World} {os : List Obj} {j : Nat} {cs : List Value} {T : TypeId} {fr : Nat × Nat} (h : os[j]? = some (.cells cs.toArray T fr)) {m : Nat} (hm : m = w.heap.size + j) : Sl (allocs w os) (some ⟨m, 0, none⟩) cs.length cs :=
  ⟨rfl, fun k u hu => ⟨m, 0, rfl, by subst hm; rw [allocs_cell h, Nat.zero_add]; simpa using hu⟩⟩
end Go.Proofs.Ytlafiddfplhafaa
