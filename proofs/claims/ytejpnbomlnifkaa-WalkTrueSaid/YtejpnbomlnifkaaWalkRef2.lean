/- The reference's begin and on walked. (Printed by walkref2.py.) -/
import Derived.Test.YtejpnbomlnifkaaWalkRef
namespace Go.Proofs.Ytejpnbomlnifkaa
set_option linter.unusedVariables false
set_option linter.unusedSimpArgs false
open Go.RowKit
attribute [local go_sem ↓] Go.wp_at_zero Go.wp_at_succ

section
variable (w0 : World) (b g1 g2 g3 : Nat) (PA : Option Addr) (n pc : Nat) (fr : Bool) (WA : Option Addr) (wc : Nat) (OA : Option Addr) (oc ic : Nat) (ins : Int) (p : List PNode) (outs V : List Bool)
/-- What is told of the reference's begin. -/
def RBeginOK (t : Tr) (k : Nat) : Prop := ∀ (wr : World) (s : StM), RSt w0 b g1 g2 g3 PA n pc fr WA wc OA oc ic ins wr s →
  Calls Try.prog 38 #[.pointer (some ⟨b, 0, none⟩), I k] wr fun e w' => e = .returned (.bool (beginT (thereM ins) (wasM outs) t k s).1) ∧
      (RSt w0 b g1 g2 g3 PA n pc fr WA wc OA oc ic ins w' (beginT (thereM ins) (wasM outs) t k s).2 ∧ Off g1 g2 wr w')
/-- What is told of the reference's on. -/
def ROnOK (t : Tr) (k : Nat) : Prop := ∀ (wr : World) (s : StM), RSt w0 b g1 g2 g3 PA n pc fr WA wc OA oc ic ins wr s → someT V t k = true → (∀ j : Nat, k ≤ j → j < k + t.size → s.W[j]?.getD false = false) →
  Calls Try.prog 40 #[.pointer (some ⟨b, 0, none⟩), I k] wr fun e w' => e = .returned (.bool (onT (thereM ins) (wasM outs) V t k s).1) ∧
      (RSt w0 b g1 g2 g3 PA n pc fr WA wc OA oc ic ins w' (onT (thereM ins) (wasM outs) V t k s).2 ∧ Off g1 g2 wr w')

set_option maxRecDepth 100000 in
set_option maxHeartbeats 4000000 in
theorem rbegin_leaf (hp : SlN w0 PA n p) (hn : n ≤ 14) (x : PNode) (k : Nat) (ht : TreeAt p k (.leaf x)) (ok : (Tr.leaf x).ok) (hg : goodN x) : RBeginOK w0 b g1 g2 g3 PA n pc fr WA wc OA oc ic ins outs (.leaf x) k := by
  intro wr s h
  have hle := ht.le
  have hpl := hp.1
  have hkn : k < n := by simp [Tr.size] at hle; omega
  have hk := good_leaf' ok hg
  have hsg := leaf_sig' hg
  have htop := ht.top
  obtain ⟨pb, poff, y, rfl, d0, d1, -, hy⟩ := hp.next hkn
  have hyx : y = x := by rw [htop] at hy; injection hy with hy; exact hy.symm
  subst hyx
  have c0 := h.c0; have c6 := h.c6; have c7 := h.c7
  have hbl := lt_of_cell c0
  have e0 := h.ext.keeps _ _ d0; have e1 := h.ext.keeps _ _ d1
  have hpl2 := lt_of_cell e0
  have HS := Lib.hid h
  obtain ⟨⟨u, hu, hcu⟩, hfz, -⟩ := own_at h.W hkn
  have hgl := lt_of_cell hcu
  obtain ⟨kd, sg⟩ := y
  simp only at hsg
  generalize hM : beginT (thereM ins) (wasM outs) (.leaf ⟨kd, sg⟩) k s = M
  simp only [beginT] at hM
  clear hp h ht ok hg hle hpl htop hy d0 d1 hu
  rcases hk with rfl | rfl | rfl | rfl | rfl
  · have HM := Lib.hid hM; clear hM c6 c7 hcu hfz hsg
    go_enter Try.func38, Try.ntmps38
    go_wp2
    go_ret
    exact ⟨by rw [← HM.out]; rfl, by rw [← HM.out]; exact HS.out.more ((Ext.refl wr).alloc _), .of_ext ((Ext.refl wr).alloc _)⟩
  · have HM := Lib.hid hM; clear hM c7 hsg
    go_enter Try.func38, Try.ntmps38
    go_wp2
    go_ret
    exact ⟨by rw [← HM.out]; rfl, by rw [← HM.out]; exact (HS.out.setW k).more ((Ext.refl _).alloc _), ((Off.refl g1 g2 wr).set1 k _).alloc _⟩
  · have HM := Lib.hid hM; clear hM c7 hsg
    go_enter Try.func38, Try.ntmps38
    go_wp2
    go_ret
    exact ⟨by rw [← HM.out]; rfl, by rw [← HM.out]; exact (HS.out.setW k).more ((Ext.refl _).alloc _), ((Off.refl g1 g2 wr).set1 k _).alloc _⟩
  · have HM := Lib.hid hM; clear hM c6 hcu hfz hgl
    obtain ⟨q, rfl⟩ := Int.eq_ofNat_of_zero_le hsg.1
    have hq : q < 3 := by omega
    have hq0 : (0 : Int) ≤ (q : Int) := by omega
    have hq3 : (q : Int) < 3 := by omega
    clear hsg
    go_enter Try.func38, Try.ntmps38
    go_wp2_with fail
    have hx1 := (Ext.refl wr).alloc (.cells #[.int .i64 3, .int .i64 (q : Int)] 63)
    have z1 : (wr.alloc (.cells #[.int .i64 3, .int .i64 (q : Int)] 63)).cell? ⟨wr.heap.size, 1, none⟩ = some (.int .i64 (q : Int)) := by go_simp
    generalize wr.alloc (.cells #[.int .i64 3, .int .i64 (q : Int)] 63) = W4 at *
    have HS4 := HS.out.more hx1
    have y7 := HS4.c7
    obtain ⟨⟨u, hu, hcu⟩, hfz, -⟩ := own_at HS4.O hq
    have HS5 := Lib.hid HS4; have HX4 := Lib.hid hx1
    clear hx1 HS4 hu c7
    go_still_tail 8, (by kernel_rfl)
    change wpList _ _ _ _ _ W4.drew
    go_wp2
    go_ret
    exact ⟨by rw [← HM.out]; rfl, by rw [← HM.out]; exact (HS5.out.setO q).more ((Ext.refl _).drew), ((Off.of_ext HX4.out).set2 q _).drew⟩
  · have HM := Lib.hid hM; clear hM c7 hsg
    go_enter Try.func38, Try.ntmps38
    go_wp2
    go_ret
    exact ⟨by rw [← HM.out]; rfl, by rw [← HM.out]; exact (HS.out.setW k).more ((Ext.refl _).alloc _), ((Off.refl g1 g2 wr).set1 k _).alloc _⟩

set_option maxRecDepth 100000 in
set_option maxHeartbeats 8000000 in
theorem rbegin_seq (hp : SlN w0 PA n p) (hn : n ≤ 14) (hK : p.any badKind = false) (sg : Int) (ta tb : Tr) (k : Nat) (ht : TreeAt p k (.two ⟨5, sg⟩ ta tb)) (ok : (Tr.two ⟨5, sg⟩ ta tb).ok) (hsr : 0 ≤ sg ∧ sg ≤ 2)
    (ia : RBeginOK w0 b g1 g2 g3 PA n pc fr WA wc OA oc ic ins outs ta (k + 1)) (ib : RBeginOK w0 b g1 g2 g3 PA n pc fr WA wc OA oc ic ins outs tb (k + 1 + ta.size)) :
    RBeginOK w0 b g1 g2 g3 PA n pc fr WA wc OA oc ic ins outs (.two ⟨5, sg⟩ ta tb) k := by
  intro wr s h
  have hle := ht.le
  have hpl := hp.1
  have hsa := size_pos ta
  have hkn : k < n := by simp [Tr.size] at hle; omega
  have hk1 : k + 1 < n := by simp [Tr.size] at hle; have := size_pos tb; omega
  have hon := ht.first.one ok.2.1
  have hce := fun W (hW : SlN W PA n p) => end_any PA n pc p (k + 1) W hW (by omega) hK hk1 (by omega)
  rw [hon, show ((k + 1 : Nat) : Int) = (k : Int) + 1 from by omega] at hce
  have htop := ht.top
  have ca := fun W s' hw => ia W s' hw
  have cb := fun W s' hw => ib W s' hw
  rw [show ((k + 1 : Nat) : Int) = (k : Int) + 1 from by omega] at ca
  rw [show ((k + 1 + ta.size : Nat) : Int) = (k : Int) + 1 + ta.size from by omega] at cb
  have IA := Lib.hid ca; have IB := Lib.hid cb; clear ca cb
  obtain ⟨pb, poff, y, rfl, d0, d1, -, hy⟩ := hp.next hkn
  have hyx : y = ⟨5, sg⟩ := by rw [htop] at hy; injection hy with hy; exact hy.symm
  subst hyx
  have c0 := h.c0
  have hbl := lt_of_cell c0
  have e0 := h.ext.keeps _ _ d0; have e1 := h.ext.keeps _ _ d1
  have hpl2 := lt_of_cell e0
  have hx1 := (Ext.refl wr).alloc (.cells #[.int .i64 5, .int .i64 sg] 63)
  have CE := Lib.hid (hce _ ((hp.keep h.ext.keeps).keep hx1.keeps))
  have hg1 : g1 < wr.heap.size := (h.W.lt g1 rfl).2
  have hg2 : g2 < wr.heap.size := (h.O.lt g2 rfl).2
  have HS := Lib.hid h; have HG1 := Lib.hid hg1; have HG2 := Lib.hid hg2; clear hg1 hg2
  generalize hM : beginT (thereM ins) (wasM outs) (.two ⟨5, sg⟩ ta tb) k s = M
  simp only [beginT, choiceM, Int.reduceEq, if_true, if_false] at hM
  clear hp h ht ok hle hpl htop hy d0 d1 ia ib hce hsa hon
  cases hr : (beginT (thereM ins) (wasM outs) ta (k + 1) s).1
  · rw [hr] at hM
    have HR := Lib.hid hr; have HM := Lib.hid hM; clear hr hM
    go_enter Try.func38, Try.ntmps38
    go_wp2_with fail
    refine CE.out.mono ?_; rintro e w' ⟨rfl, rfl⟩
    go_wp2_with fail
    refine (IA.out _ s (HS.out.more hx1)).mono ?_; rintro e w1 ⟨rfl, hs1, o1⟩; rw [HR.out]
    have HS1 := Lib.hid hs1; have O1 := Lib.hid o1; clear hs1 o1
    go_wp2
    go_ret
    exact ⟨by rw [← HM.out]; rfl, by rw [← HM.out]; exact HS1.out, (Off.of_ext hx1).trans O1.out⟩
  · rw [hr] at hM
    have HR := Lib.hid hr; have HM := Lib.hid hM; clear hr hM
    go_enter Try.func38, Try.ntmps38
    go_wp2_with fail
    refine CE.out.mono ?_; rintro e w' ⟨rfl, rfl⟩
    go_wp2_with fail
    refine (IA.out _ s (HS.out.more hx1)).mono ?_; rintro e w1 ⟨rfl, hs1, o1⟩; rw [HR.out]
    have HS1 := Lib.hid hs1; have O1 := Lib.hid o1; clear hs1 o1
    go_wp2_with fail
    refine (IB.out w1 _ HS1.out).mono ?_; rintro e w2 ⟨rfl, hs2, o2⟩
    have HS2 := Lib.hid hs2; have O2 := Lib.hid o2; clear hs2 o2
    go_wp2
    go_ret
    exact ⟨by rw [← HM.out]; rfl, by rw [← HM.out]; exact HS2.out, ((Off.of_ext hx1).trans O1.out).trans O2.out⟩

set_option maxRecDepth 100000 in
set_option maxHeartbeats 8000000 in
theorem rbegin_par (hp : SlN w0 PA n p) (hn : n ≤ 14) (hK : p.any badKind = false) (sg : Int) (ta tb : Tr) (k : Nat) (ht : TreeAt p k (.two ⟨6, sg⟩ ta tb)) (ok : (Tr.two ⟨6, sg⟩ ta tb).ok) (hsr : 0 ≤ sg ∧ sg ≤ 2)
    (ia : RBeginOK w0 b g1 g2 g3 PA n pc fr WA wc OA oc ic ins outs ta (k + 1)) (ib : RBeginOK w0 b g1 g2 g3 PA n pc fr WA wc OA oc ic ins outs tb (k + 1 + ta.size)) :
    RBeginOK w0 b g1 g2 g3 PA n pc fr WA wc OA oc ic ins outs (.two ⟨6, sg⟩ ta tb) k := by
  intro wr s h
  have hle := ht.le
  have hpl := hp.1
  have hsa := size_pos ta
  have hkn : k < n := by simp [Tr.size] at hle; omega
  have hk1 : k + 1 < n := by simp [Tr.size] at hle; have := size_pos tb; omega
  have hon := ht.first.one ok.2.1
  have hce := fun W (hW : SlN W PA n p) => end_any PA n pc p (k + 1) W hW (by omega) hK hk1 (by omega)
  rw [hon, show ((k + 1 : Nat) : Int) = (k : Int) + 1 from by omega] at hce
  have htop := ht.top
  have ca := fun W s' hw => ia W s' hw
  have cb := fun W s' hw => ib W s' hw
  rw [show ((k + 1 : Nat) : Int) = (k : Int) + 1 from by omega] at ca
  rw [show ((k + 1 + ta.size : Nat) : Int) = (k : Int) + 1 + ta.size from by omega] at cb
  have IA := Lib.hid ca; have IB := Lib.hid cb; clear ca cb
  obtain ⟨pb, poff, y, rfl, d0, d1, -, hy⟩ := hp.next hkn
  have hyx : y = ⟨6, sg⟩ := by rw [htop] at hy; injection hy with hy; exact hy.symm
  subst hyx
  have c0 := h.c0
  have hbl := lt_of_cell c0
  have e0 := h.ext.keeps _ _ d0; have e1 := h.ext.keeps _ _ d1
  have hpl2 := lt_of_cell e0
  have hx1 := (Ext.refl wr).alloc (.cells #[.int .i64 6, .int .i64 sg] 63)
  have CE := Lib.hid (hce _ ((hp.keep h.ext.keeps).keep hx1.keeps))
  have hg1 : g1 < wr.heap.size := (h.W.lt g1 rfl).2
  have hg2 : g2 < wr.heap.size := (h.O.lt g2 rfl).2
  have HS := Lib.hid h; have HG1 := Lib.hid hg1; have HG2 := Lib.hid hg2; clear hg1 hg2
  generalize hM : beginT (thereM ins) (wasM outs) (.two ⟨6, sg⟩ ta tb) k s = M
  simp only [beginT, choiceM, Int.reduceEq, if_true, if_false] at hM
  clear hp h ht ok hle hpl htop hy d0 d1 ia ib hce hsa hon
  have HM := Lib.hid hM; clear hM
  go_enter Try.func38, Try.ntmps38
  go_wp2_with fail
  refine CE.out.mono ?_; rintro e w' ⟨rfl, rfl⟩
  go_wp2_with fail
  refine (IA.out _ s (HS.out.more hx1)).mono ?_; rintro e w1 ⟨rfl, hs1, o1⟩
  have HS1 := Lib.hid hs1; have O1 := Lib.hid o1; clear hs1 o1
  go_wp2_with fail
  refine (IB.out w1 _ HS1.out).mono ?_; rintro e w2 ⟨rfl, hs2, o2⟩
  have HS2 := Lib.hid hs2; have O2 := Lib.hid o2; clear hs2 o2
  go_wp2
  all_goals
    go_ret
    exact ⟨by rw [← HM.out]; simp_all, by rw [← HM.out]; exact HS2.out, ((Off.of_ext hx1).trans O1.out).trans O2.out⟩

set_option maxRecDepth 100000 in
set_option maxHeartbeats 8000000 in
theorem rbegin_if (hp : SlN w0 PA n p) (hn : n ≤ 14) (hK : p.any badKind = false) (sg : Int) (ta tb : Tr) (k : Nat) (ht : TreeAt p k (.two ⟨7, sg⟩ ta tb)) (ok : (Tr.two ⟨7, sg⟩ ta tb).ok) (hsr : 0 ≤ sg ∧ sg ≤ 2)
    (ia : RBeginOK w0 b g1 g2 g3 PA n pc fr WA wc OA oc ic ins outs ta (k + 1)) (ib : RBeginOK w0 b g1 g2 g3 PA n pc fr WA wc OA oc ic ins outs tb (k + 1 + ta.size)) :
    RBeginOK w0 b g1 g2 g3 PA n pc fr WA wc OA oc ic ins outs (.two ⟨7, sg⟩ ta tb) k := by
  intro wr s h
  have hle := ht.le
  have hpl := hp.1
  have hsa := size_pos ta
  have hkn : k < n := by simp [Tr.size] at hle; omega
  have hk1 : k + 1 < n := by simp [Tr.size] at hle; have := size_pos tb; omega
  have hon := ht.first.one ok.2.1
  have hce := fun W (hW : SlN W PA n p) => end_any PA n pc p (k + 1) W hW (by omega) hK hk1 (by omega)
  rw [hon, show ((k + 1 : Nat) : Int) = (k : Int) + 1 from by omega] at hce
  have htop := ht.top
  have ca := fun W s' hw => ia W s' hw
  have cb := fun W s' hw => ib W s' hw
  rw [show ((k + 1 : Nat) : Int) = (k : Int) + 1 from by omega] at ca
  rw [show ((k + 1 + ta.size : Nat) : Int) = (k : Int) + 1 + ta.size from by omega] at cb
  have IA := Lib.hid ca; have IB := Lib.hid cb; clear ca cb
  obtain ⟨pb, poff, y, rfl, d0, d1, -, hy⟩ := hp.next hkn
  have hyx : y = ⟨7, sg⟩ := by rw [htop] at hy; injection hy with hy; exact hy.symm
  subst hyx
  have c0 := h.c0
  have hbl := lt_of_cell c0
  have e0 := h.ext.keeps _ _ d0; have e1 := h.ext.keeps _ _ d1
  have hpl2 := lt_of_cell e0
  have hx1 := (Ext.refl wr).alloc (.cells #[.int .i64 7, .int .i64 sg] 63)
  have CE := Lib.hid (hce _ ((hp.keep h.ext.keeps).keep hx1.keeps))
  have hg1 : g1 < wr.heap.size := (h.W.lt g1 rfl).2
  have hg2 : g2 < wr.heap.size := (h.O.lt g2 rfl).2
  have HS := Lib.hid h; have HG1 := Lib.hid hg1; have HG2 := Lib.hid hg2; clear hg1 hg2
  generalize hM : beginT (thereM ins) (wasM outs) (.two ⟨7, sg⟩ ta tb) k s = M
  simp only [beginT, choiceM, Int.reduceEq, if_true, if_false] at hM
  clear hp h ht ok hle hpl htop hy d0 d1 ia ib hce hsa hon
  obtain ⟨sn, rfl⟩ := Int.eq_ofNat_of_zero_le hsr.1
  have hsn : sn < 3 := by have := hsr.2; omega
  have c4 := HS.out.c4
  have yb := HS.out.bit hsn
  have hbl3 := lt_of_cell yb
  have hq0 : (0 : Int) ≤ (sn : Int) := by omega
  have hq3 : (sn : Int) < 3 := by omega
  clear hsr
  cases hr : thereM ins (sn : Int)
  · rw [hr] at hM
    simp only [Bool.false_eq_true, if_false, if_true] at hM
    have HM := Lib.hid hM; clear hM
    have hbit : ((ins / 2 ^ sn % 2 : Int) == 1) = false := by simp only [thereM, Int.toNat_natCast, decide_eq_false_iff_not] at hr; simpa using hr
    generalize ins / 2 ^ sn % 2 = bt at *
    clear hr
    go_enter Try.func38, Try.ntmps38
    go_wp2_with fail
    refine CE.out.mono ?_; rintro e w' ⟨rfl, rfl⟩
    go_wp2_with fail
    go_quiet (fail)
    go_wp2_with fail
    refine (IB.out _ s ((HS.out.more hx1).more ((Ext.refl _).drewN _))).mono ?_; rintro e w1 ⟨rfl, hs1, o1⟩
    have HS1 := Lib.hid hs1; have O1 := Lib.hid o1; clear hs1 o1
    go_wp2
    go_ret
    exact ⟨by rw [← HM.out]; rfl, by rw [← HM.out]; exact HS1.out, (Off.of_ext (hx1.drewN _)).trans O1.out⟩
  · rw [hr] at hM
    simp only [Bool.false_eq_true, if_false, if_true] at hM
    have HM := Lib.hid hM; clear hM
    have hbit : ((ins / 2 ^ sn % 2 : Int) == 1) = true := by simp only [thereM, Int.toNat_natCast, decide_eq_true_eq] at hr; simpa using hr
    generalize ins / 2 ^ sn % 2 = bt at *
    clear hr
    go_enter Try.func38, Try.ntmps38
    go_wp2_with fail
    refine CE.out.mono ?_; rintro e w' ⟨rfl, rfl⟩
    go_wp2_with fail
    go_quiet (fail)
    go_wp2_with fail
    refine (IA.out _ s ((HS.out.more hx1).more ((Ext.refl _).drewN _))).mono ?_; rintro e w1 ⟨rfl, hs1, o1⟩
    have HS1 := Lib.hid hs1; have O1 := Lib.hid o1; clear hs1 o1
    go_wp2
    go_ret
    exact ⟨by rw [← HM.out]; rfl, by rw [← HM.out]; exact HS1.out, (Off.of_ext (hx1.drewN _)).trans O1.out⟩

set_option maxRecDepth 100000 in
set_option maxHeartbeats 8000000 in
theorem rbegin_was (hp : SlN w0 PA n p) (hO : Sl w0 OA 3 (outs.map Bv)) (hn : n ≤ 14) (hK : p.any badKind = false) (sg : Int) (ta tb : Tr) (k : Nat) (ht : TreeAt p k (.two ⟨8, sg⟩ ta tb)) (ok : (Tr.two ⟨8, sg⟩ ta tb).ok) (hsr : 0 ≤ sg ∧ sg ≤ 2)
    (ia : RBeginOK w0 b g1 g2 g3 PA n pc fr WA wc OA oc ic ins outs ta (k + 1)) (ib : RBeginOK w0 b g1 g2 g3 PA n pc fr WA wc OA oc ic ins outs tb (k + 1 + ta.size)) :
    RBeginOK w0 b g1 g2 g3 PA n pc fr WA wc OA oc ic ins outs (.two ⟨8, sg⟩ ta tb) k := by
  intro wr s h
  have hle := ht.le
  have hpl := hp.1
  have hsa := size_pos ta
  have hkn : k < n := by simp [Tr.size] at hle; omega
  have hk1 : k + 1 < n := by simp [Tr.size] at hle; have := size_pos tb; omega
  have hon := ht.first.one ok.2.1
  have hce := fun W (hW : SlN W PA n p) => end_any PA n pc p (k + 1) W hW (by omega) hK hk1 (by omega)
  rw [hon, show ((k + 1 : Nat) : Int) = (k : Int) + 1 from by omega] at hce
  have htop := ht.top
  have ca := fun W s' hw => ia W s' hw
  have cb := fun W s' hw => ib W s' hw
  rw [show ((k + 1 : Nat) : Int) = (k : Int) + 1 from by omega] at ca
  rw [show ((k + 1 + ta.size : Nat) : Int) = (k : Int) + 1 + ta.size from by omega] at cb
  have IA := Lib.hid ca; have IB := Lib.hid cb; clear ca cb
  obtain ⟨pb, poff, y, rfl, d0, d1, -, hy⟩ := hp.next hkn
  have hyx : y = ⟨8, sg⟩ := by rw [htop] at hy; injection hy with hy; exact hy.symm
  subst hyx
  have c0 := h.c0
  have hbl := lt_of_cell c0
  have e0 := h.ext.keeps _ _ d0; have e1 := h.ext.keeps _ _ d1
  have hpl2 := lt_of_cell e0
  have hx1 := (Ext.refl wr).alloc (.cells #[.int .i64 8, .int .i64 sg] 63)
  have CE := Lib.hid (hce _ ((hp.keep h.ext.keeps).keep hx1.keeps))
  have hg1 : g1 < wr.heap.size := (h.W.lt g1 rfl).2
  have hg2 : g2 < wr.heap.size := (h.O.lt g2 rfl).2
  have HS := Lib.hid h; have HG1 := Lib.hid hg1; have HG2 := Lib.hid hg2; clear hg1 hg2
  generalize hM : beginT (thereM ins) (wasM outs) (.two ⟨8, sg⟩ ta tb) k s = M
  simp only [beginT, choiceM, Int.reduceEq, if_true, if_false] at hM
  clear hp h ht ok hle hpl htop hy d0 d1 ia ib hce hsa hon
  obtain ⟨sn, rfl⟩ := Int.eq_ofNat_of_zero_le hsr.1
  have hsn : sn < 3 := by have := hsr.2; omega
  obtain ⟨ob, ooff, u, rfl, hcu0, hu⟩ := hO.at_ hsn
  have hws : wasM outs (sn : Int) = u := by simp [wasM, hu]
  have c3 := HS.out.c3
  have yo := HS.out.ext.keeps _ _ hcu0
  have hol3 := lt_of_cell yo
  have hq0 : (0 : Int) ≤ (sn : Int) := by omega
  have hq3 : (sn : Int) < 3 := by omega
  clear hO hcu0 hu hsr
  rw [hws] at hM
  clear hws
  cases hr : u
  · rw [hr] at hM
    simp only [Bool.false_eq_true, if_false, if_true] at hM
    have HM := Lib.hid hM; clear hM
    subst hr
    go_enter Try.func38, Try.ntmps38
    go_wp2_with fail
    refine CE.out.mono ?_; rintro e w' ⟨rfl, rfl⟩
    go_wp2_with fail
    go_quiet (fail)
    go_wp2_with fail
    refine (IB.out _ s ((HS.out.more hx1).more ((Ext.refl _).drewN _))).mono ?_; rintro e w1 ⟨rfl, hs1, o1⟩
    have HS1 := Lib.hid hs1; have O1 := Lib.hid o1; clear hs1 o1
    go_wp2
    go_ret
    exact ⟨by rw [← HM.out]; rfl, by rw [← HM.out]; exact HS1.out, (Off.of_ext (hx1.drewN _)).trans O1.out⟩
  · rw [hr] at hM
    simp only [Bool.false_eq_true, if_false, if_true] at hM
    have HM := Lib.hid hM; clear hM
    subst hr
    go_enter Try.func38, Try.ntmps38
    go_wp2_with fail
    refine CE.out.mono ?_; rintro e w' ⟨rfl, rfl⟩
    go_wp2_with fail
    go_quiet (fail)
    go_wp2_with fail
    refine (IA.out _ s ((HS.out.more hx1).more ((Ext.refl _).drewN _))).mono ?_; rintro e w1 ⟨rfl, hs1, o1⟩
    have HS1 := Lib.hid hs1; have O1 := Lib.hid o1; clear hs1 o1
    go_wp2
    go_ret
    exact ⟨by rw [← HM.out]; rfl, by rw [← HM.out]; exact HS1.out, (Off.of_ext (hx1.drewN _)).trans O1.out⟩

theorem rbegin_any (hp : SlN w0 PA n p) (hO : Sl w0 OA 3 (outs.map Bv)) (hn : n ≤ 14) (hK : p.any badKind = false) : ∀ (t : Tr) (k : Nat), TreeAt p k t → t.ok → (∀ x ∈ t.flat, goodN x) → RBeginOK w0 b g1 g2 g3 PA n pc fr WA wc OA oc ic ins outs t k
  | .leaf x, k, ht, ok, hg => rbegin_leaf w0 b g1 g2 g3 PA n pc fr WA wc OA oc ic ins p outs hp hn x k ht ok (hg x (by simp [Tr.flat]))
  | .two ⟨kd, sg⟩ ta tb, k, ht, ok, hg => by
    have hgs := sub_good hg
    have hx := hg ⟨kd, sg⟩ (by simp [Tr.flat])
    have hsr := leaf_sig' hx
    have ia := rbegin_any hp hO hn hK ta (k + 1) ht.first ok.2.1 hgs.1
    have ib := rbegin_any hp hO hn hK tb (k + 1 + ta.size) ht.second ok.2.2 hgs.2
    rcases good_two' ok.1 hx with e | e | e | e
    · simp only at e; subst e; exact rbegin_seq w0 b g1 g2 g3 PA n pc fr WA wc OA oc ic ins p outs hp hn hK sg ta tb k ht ok hsr ia ib
    · simp only at e; subst e; exact rbegin_par w0 b g1 g2 g3 PA n pc fr WA wc OA oc ic ins p outs hp hn hK sg ta tb k ht ok hsr ia ib
    · simp only at e; subst e; exact rbegin_if w0 b g1 g2 g3 PA n pc fr WA wc OA oc ic ins p outs hp hn hK sg ta tb k ht ok hsr ia ib
    · simp only at e; subst e; exact rbegin_was w0 b g1 g2 g3 PA n pc fr WA wc OA oc ic ins p outs hp hO hn hK sg ta tb k ht ok hsr ia ib
end
end Go.Proofs.Ytejpnbomlnifkaa
