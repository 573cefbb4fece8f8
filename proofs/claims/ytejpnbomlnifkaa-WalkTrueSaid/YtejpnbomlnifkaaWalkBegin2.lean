/- The walker's begin walked: nodes of two parts. (Printed by walkbegin2.py.) -/
import Derived.Test.YtejpnbomlnifkaaWalkBegin
namespace Go.Proofs.Ytejpnbomlnifkaa
set_option linter.unusedVariables false
set_option linter.unusedSimpArgs false
open Go.RowKit
attribute [local go_sem ↓] Go.wp_at_zero Go.wp_at_succ

theorem wchoice_any (b m : Nat) (f g : Int) (c : Bool) (W : World) (z0 : W.cell? ⟨m, 0, none⟩ = some (.pointer (some ⟨b, 0, none⟩))) (z6 : W.cell? ⟨m + 1 + 1, 0, none⟩ = some (I f)) (z7 : W.cell? ⟨m + 1 + 1 + 1, 0, none⟩ = some (I g))
    (r : Bool) (R : World → Prop) (hc : Calls Try.prog 49 #[.pointer (some ⟨b, 0, none⟩), I (if c then f else g)] W fun e w' => e = .returned (.bool r) ∧ R w') :
    Calls Try.prog 56 #[Bv c, .pointer (some ⟨m, 0, none⟩), .pointer (some ⟨m + 1 + 1, 0, none⟩), .pointer (some ⟨m + 1 + 1 + 1, 0, none⟩)] W fun e w' => e = .returned (.bool r) ∧ R w' := by
  cases c
  · simp only [Bool.false_eq_true, if_false] at hc
    have HC := Lib.hid hc; clear hc
    go_enter Try.func56, Try.ntmps56
    go_wp2_with fail
    refine HC.out.mono ?_; rintro e w' ⟨rfl, hr⟩
    have HR := Lib.hid hr; clear hr
    go_wp2
    go_ret
    exact ⟨rfl, HR.out⟩
  · simp only [if_true] at hc
    have HC := Lib.hid hc; clear hc
    go_enter Try.func56, Try.ntmps56
    go_wp2_with fail
    refine HC.out.mono ?_; rintro e w' ⟨rfl, hr⟩
    have HR := Lib.hid hr; clear hr
    go_wp2
    go_ret
    exact ⟨rfl, HR.out⟩

section
variable (w0 : World) (b g1 g2 : Nat) (PA : Option Addr) (n pc : Nat) (fr : Bool) (WA : Option Addr) (wc : Nat) (OA : Option Addr) (oc : Nat) (ins : Int) (p : List PNode) (outs : List Bool)
/-- What is told of begin. -/
def BeginOK (t : Tr) (k : Nat) : Prop := ∀ (wr : World) (s : StM), WSt w0 b g1 g2 PA n pc fr WA wc OA oc ins wr s →
  Calls Try.prog 49 #[.pointer (some ⟨b, 0, none⟩), I k] wr fun e w' => e = .returned (.bool (beginT (thereM ins) (wasM outs) t k s).1) ∧
      (WSt w0 b g1 g2 PA n pc fr WA wc OA oc ins w' (beginT (thereM ins) (wasM outs) t k s).2 ∧ Off g1 g2 wr w')

set_option maxRecDepth 100000 in
set_option maxHeartbeats 8000000 in
theorem wbegin_seq (hp : SlN w0 PA n p) (hn : n ≤ 14) (sg : Int) (ta tb : Tr) (k : Nat) (ht : TreeAt p k (.two ⟨5, sg⟩ ta tb)) (ok : (Tr.two ⟨5, sg⟩ ta tb).ok) (hsr : 0 ≤ sg ∧ sg ≤ 2)
    (ia : BeginOK w0 b g1 g2 PA n pc fr WA wc OA oc ins outs ta (k + 1)) (ib : BeginOK w0 b g1 g2 PA n pc fr WA wc OA oc ins outs tb (k + 1 + ta.size)) :
    BeginOK w0 b g1 g2 PA n pc fr WA wc OA oc ins outs (.two ⟨5, sg⟩ ta tb) k := by
  intro wr s h
  have hle := ht.le
  have hpl := hp.1
  have hkn : k < n := by simp [Tr.size] at hle; omega
  have hof := ht.of_two ok
  have htop := ht.top
  obtain ⟨pb, poff, y, rfl, d0, d1, -, hy⟩ := hp.next hkn
  have hyx : y = ⟨5, sg⟩ := by rw [htop] at hy; injection hy with hy; exact hy.symm
  subst hyx
  have c0 := h.c0
  have hbl := lt_of_cell c0
  have e0 := h.ext.keeps _ _ d0; have e1 := h.ext.keeps _ _ d1
  have hpl2 := lt_of_cell e0
  have hg1 : g1 < wr.heap.size := (h.W.lt g1 rfl).2
  have hg2 : g2 < wr.heap.size := (h.O.lt g2 rfl).2
  have HP := Lib.hid hp; have HOF := Lib.hid hof; have HS := Lib.hid h; have HG1 := Lib.hid hg1; have HG2 := Lib.hid hg2; have HSR := Lib.hid hsr
  have ca : ∀ (wr : World) (s : StM), WSt w0 b g1 g2 (some ⟨pb, poff, none⟩) n pc fr WA wc OA oc ins wr s → Calls Try.prog 49 #[.pointer (some ⟨b, 0, none⟩), .int .i64 ((k : Int) + 1)] wr fun e w' => e = .returned (.bool (beginT (thereM ins) (wasM outs) ta (k + 1) s).1) ∧
      (WSt w0 b g1 g2 (some ⟨pb, poff, none⟩) n pc fr WA wc OA oc ins w' (beginT (thereM ins) (wasM outs) ta (k + 1) s).2 ∧ Off g1 g2 wr w') := fun wr s h => by
    have := ia wr s h; rwa [show ((k + 1 : Nat) : Int) = (k : Int) + 1 from by omega] at this
  have cb : ∀ (wr : World) (s : StM), WSt w0 b g1 g2 (some ⟨pb, poff, none⟩) n pc fr WA wc OA oc ins wr s → Calls Try.prog 49 #[.pointer (some ⟨b, 0, none⟩), .int .i64 ((k : Int) + 1 + ta.size)] wr fun e w' => e = .returned (.bool (beginT (thereM ins) (wasM outs) tb (k + 1 + ta.size) s).1) ∧
      (WSt w0 b g1 g2 (some ⟨pb, poff, none⟩) n pc fr WA wc OA oc ins w' (beginT (thereM ins) (wasM outs) tb (k + 1 + ta.size) s).2 ∧ Off g1 g2 wr w') := fun wr s h => by
    have := ib wr s h; rwa [show ((k + 1 + ta.size : Nat) : Int) = (k : Int) + 1 + ta.size from by omega] at this
  have IA := Lib.hid ca; have IB := Lib.hid cb; clear ca cb
  generalize hM : beginT (thereM ins) (wasM outs) (.two ⟨5, sg⟩ ta tb) k s = M
  simp only [beginT, choiceM, Int.reduceEq, if_true, if_false] at hM
  clear hp hof h ht ok hle hpl htop hy d0 d1 ia ib hg1 hg2 hsr
  generalize hnx : (k : Int) + (Tr.two ⟨5, sg⟩ ta tb).size = beh at *
  clear hnx
  cases hr : (beginT (thereM ins) (wasM outs) ta (k + 1) s).1
  · rw [hr] at hM
    have HR := Lib.hid hr; have HM := Lib.hid hM; clear hr hM
    go_enter Try.func49, Try.ntmps49
    go_wp2_with fail
    refine (progOf_any _ n pc p k _ ((HP.out.keep HS.out.ext.keeps).keep (((Ext.refl wr).alloc _).alloc _).keeps) (by omega) hkn).mono ?_; rintro e w' ⟨rfl, rfl⟩; rw [HOF.out]
    go_wp2_with fail
    have hx4 : Ext wr ((((wr.alloc (.cells #[.pointer (some ⟨b, 0, none⟩)] 82)).alloc (.cells #[.int .i64 5, .int .i64 sg] 63)).alloc (.cells #[.int .i64 ((k : Int) + 1)] 3)).alloc (.cells #[.int .i64 ((k : Int) + 1 + ta.size)] 3)) := ((((Ext.refl wr).alloc _).alloc _).alloc _).alloc _
    have z0 : ((((wr.alloc (.cells #[.pointer (some ⟨b, 0, none⟩)] 82)).alloc (.cells #[.int .i64 5, .int .i64 sg] 63)).alloc (.cells #[.int .i64 ((k : Int) + 1)] 3)).alloc (.cells #[.int .i64 ((k : Int) + 1 + ta.size)] 3)).cell? ⟨wr.heap.size, 0, none⟩ = some (.pointer (some ⟨b, 0, none⟩)) := by go_simp
    have z1 : ((((wr.alloc (.cells #[.pointer (some ⟨b, 0, none⟩)] 82)).alloc (.cells #[.int .i64 5, .int .i64 sg] 63)).alloc (.cells #[.int .i64 ((k : Int) + 1)] 3)).alloc (.cells #[.int .i64 ((k : Int) + 1 + ta.size)] 3)).cell? ⟨wr.heap.size + 1, 1, none⟩ = some (.int .i64 sg) := by go_simp
    have z6 : ((((wr.alloc (.cells #[.pointer (some ⟨b, 0, none⟩)] 82)).alloc (.cells #[.int .i64 5, .int .i64 sg] 63)).alloc (.cells #[.int .i64 ((k : Int) + 1)] 3)).alloc (.cells #[.int .i64 ((k : Int) + 1 + ta.size)] 3)).cell? ⟨wr.heap.size + 1 + 1, 0, none⟩ = some (.int .i64 ((k : Int) + 1)) := by go_simp
    have z7 : ((((wr.alloc (.cells #[.pointer (some ⟨b, 0, none⟩)] 82)).alloc (.cells #[.int .i64 5, .int .i64 sg] 63)).alloc (.cells #[.int .i64 ((k : Int) + 1)] 3)).alloc (.cells #[.int .i64 ((k : Int) + 1 + ta.size)] 3)).cell? ⟨wr.heap.size + 1 + 1 + 1, 0, none⟩ = some (.int .i64 ((k : Int) + 1 + ta.size)) := by go_simp
    generalize ((((wr.alloc (.cells #[.pointer (some ⟨b, 0, none⟩)] 82)).alloc (.cells #[.int .i64 5, .int .i64 sg] 63)).alloc (.cells #[.int .i64 ((k : Int) + 1)] 3)).alloc (.cells #[.int .i64 ((k : Int) + 1 + ta.size)] 3)) = W4 at *
    have HS4 := Lib.hid (HS.out.more hx4); have HX4 := Lib.hid hx4; clear hx4
    have m1 := HG1.out; have m2 := HG2.out
    have off4 : ∀ w1 : World, Off g1 g2 W4 w1 → w1.cell? ⟨wr.heap.size, 0, none⟩ = some (.pointer (some ⟨b, 0, none⟩)) ∧ w1.cell? ⟨wr.heap.size + 1 + 1, 0, none⟩ = some (.int .i64 ((k : Int) + 1)) ∧ w1.cell? ⟨wr.heap.size + 1 + 1 + 1, 0, none⟩ = some (.int .i64 ((k : Int) + 1 + ta.size)) := fun w1 o =>
      ⟨o.cell z0 (by show wr.heap.size ≠ g1; omega) (by show wr.heap.size ≠ g2; omega), o.cell z6 (by show wr.heap.size + 1 + 1 ≠ g1; omega) (by show wr.heap.size + 1 + 1 ≠ g2; omega), o.cell z7 (by show wr.heap.size + 1 + 1 + 1 ≠ g1; omega) (by show wr.heap.size + 1 + 1 + 1 ≠ g2; omega)⟩
    have OFF4 := Lib.hid off4; clear off4 m1 m2
    refine (IA.out W4 s HS4.out).mono ?_; rintro e w1 ⟨rfl, hs1, o1⟩; rw [HR.out]
    have HS1 := Lib.hid hs1; have O1 := Lib.hid o1; clear hs1 o1
    go_wp2
    go_ret
    exact ⟨by rw [← HM.out]; rfl, by rw [← HM.out]; exact HS1.out, (Off.of_ext HX4.out).trans O1.out⟩
  · rw [hr] at hM
    have HR := Lib.hid hr; have HM := Lib.hid hM; clear hr hM
    go_enter Try.func49, Try.ntmps49
    go_wp2_with fail
    refine (progOf_any _ n pc p k _ ((HP.out.keep HS.out.ext.keeps).keep (((Ext.refl wr).alloc _).alloc _).keeps) (by omega) hkn).mono ?_; rintro e w' ⟨rfl, rfl⟩; rw [HOF.out]
    go_wp2_with fail
    have hx4 : Ext wr ((((wr.alloc (.cells #[.pointer (some ⟨b, 0, none⟩)] 82)).alloc (.cells #[.int .i64 5, .int .i64 sg] 63)).alloc (.cells #[.int .i64 ((k : Int) + 1)] 3)).alloc (.cells #[.int .i64 ((k : Int) + 1 + ta.size)] 3)) := ((((Ext.refl wr).alloc _).alloc _).alloc _).alloc _
    have z0 : ((((wr.alloc (.cells #[.pointer (some ⟨b, 0, none⟩)] 82)).alloc (.cells #[.int .i64 5, .int .i64 sg] 63)).alloc (.cells #[.int .i64 ((k : Int) + 1)] 3)).alloc (.cells #[.int .i64 ((k : Int) + 1 + ta.size)] 3)).cell? ⟨wr.heap.size, 0, none⟩ = some (.pointer (some ⟨b, 0, none⟩)) := by go_simp
    have z1 : ((((wr.alloc (.cells #[.pointer (some ⟨b, 0, none⟩)] 82)).alloc (.cells #[.int .i64 5, .int .i64 sg] 63)).alloc (.cells #[.int .i64 ((k : Int) + 1)] 3)).alloc (.cells #[.int .i64 ((k : Int) + 1 + ta.size)] 3)).cell? ⟨wr.heap.size + 1, 1, none⟩ = some (.int .i64 sg) := by go_simp
    have z6 : ((((wr.alloc (.cells #[.pointer (some ⟨b, 0, none⟩)] 82)).alloc (.cells #[.int .i64 5, .int .i64 sg] 63)).alloc (.cells #[.int .i64 ((k : Int) + 1)] 3)).alloc (.cells #[.int .i64 ((k : Int) + 1 + ta.size)] 3)).cell? ⟨wr.heap.size + 1 + 1, 0, none⟩ = some (.int .i64 ((k : Int) + 1)) := by go_simp
    have z7 : ((((wr.alloc (.cells #[.pointer (some ⟨b, 0, none⟩)] 82)).alloc (.cells #[.int .i64 5, .int .i64 sg] 63)).alloc (.cells #[.int .i64 ((k : Int) + 1)] 3)).alloc (.cells #[.int .i64 ((k : Int) + 1 + ta.size)] 3)).cell? ⟨wr.heap.size + 1 + 1 + 1, 0, none⟩ = some (.int .i64 ((k : Int) + 1 + ta.size)) := by go_simp
    generalize ((((wr.alloc (.cells #[.pointer (some ⟨b, 0, none⟩)] 82)).alloc (.cells #[.int .i64 5, .int .i64 sg] 63)).alloc (.cells #[.int .i64 ((k : Int) + 1)] 3)).alloc (.cells #[.int .i64 ((k : Int) + 1 + ta.size)] 3)) = W4 at *
    have HS4 := Lib.hid (HS.out.more hx4); have HX4 := Lib.hid hx4; clear hx4
    have m1 := HG1.out; have m2 := HG2.out
    have off4 : ∀ w1 : World, Off g1 g2 W4 w1 → w1.cell? ⟨wr.heap.size, 0, none⟩ = some (.pointer (some ⟨b, 0, none⟩)) ∧ w1.cell? ⟨wr.heap.size + 1 + 1, 0, none⟩ = some (.int .i64 ((k : Int) + 1)) ∧ w1.cell? ⟨wr.heap.size + 1 + 1 + 1, 0, none⟩ = some (.int .i64 ((k : Int) + 1 + ta.size)) := fun w1 o =>
      ⟨o.cell z0 (by show wr.heap.size ≠ g1; omega) (by show wr.heap.size ≠ g2; omega), o.cell z6 (by show wr.heap.size + 1 + 1 ≠ g1; omega) (by show wr.heap.size + 1 + 1 ≠ g2; omega), o.cell z7 (by show wr.heap.size + 1 + 1 + 1 ≠ g1; omega) (by show wr.heap.size + 1 + 1 + 1 ≠ g2; omega)⟩
    have OFF4 := Lib.hid off4; clear off4 m1 m2
    refine (IA.out W4 s HS4.out).mono ?_; rintro e w1 ⟨rfl, hs1, o1⟩; rw [HR.out]
    obtain ⟨y0, y6, y7⟩ := OFF4.out _ o1
    have HS1 := Lib.hid hs1; have O1 := Lib.hid o1; clear hs1 o1 z0 z1 z6 z7
    go_wp2_with fail
    refine (IB.out w1 _ HS1.out).mono ?_; rintro e w2 ⟨rfl, hs2, o2⟩
    have HS2 := Lib.hid hs2; have O2 := Lib.hid o2; clear hs2 o2
    go_wp2
    go_ret
    exact ⟨by rw [← HM.out]; rfl, by rw [← HM.out]; exact HS2.out, ((Off.of_ext HX4.out).trans O1.out).trans O2.out⟩

set_option maxRecDepth 100000 in
set_option maxHeartbeats 8000000 in
theorem wbegin_par (hp : SlN w0 PA n p) (hn : n ≤ 14) (sg : Int) (ta tb : Tr) (k : Nat) (ht : TreeAt p k (.two ⟨6, sg⟩ ta tb)) (ok : (Tr.two ⟨6, sg⟩ ta tb).ok) (hsr : 0 ≤ sg ∧ sg ≤ 2)
    (ia : BeginOK w0 b g1 g2 PA n pc fr WA wc OA oc ins outs ta (k + 1)) (ib : BeginOK w0 b g1 g2 PA n pc fr WA wc OA oc ins outs tb (k + 1 + ta.size)) :
    BeginOK w0 b g1 g2 PA n pc fr WA wc OA oc ins outs (.two ⟨6, sg⟩ ta tb) k := by
  intro wr s h
  have hle := ht.le
  have hpl := hp.1
  have hkn : k < n := by simp [Tr.size] at hle; omega
  have hof := ht.of_two ok
  have htop := ht.top
  obtain ⟨pb, poff, y, rfl, d0, d1, -, hy⟩ := hp.next hkn
  have hyx : y = ⟨6, sg⟩ := by rw [htop] at hy; injection hy with hy; exact hy.symm
  subst hyx
  have c0 := h.c0
  have hbl := lt_of_cell c0
  have e0 := h.ext.keeps _ _ d0; have e1 := h.ext.keeps _ _ d1
  have hpl2 := lt_of_cell e0
  have hg1 : g1 < wr.heap.size := (h.W.lt g1 rfl).2
  have hg2 : g2 < wr.heap.size := (h.O.lt g2 rfl).2
  have HP := Lib.hid hp; have HOF := Lib.hid hof; have HS := Lib.hid h; have HG1 := Lib.hid hg1; have HG2 := Lib.hid hg2; have HSR := Lib.hid hsr
  have ca : ∀ (wr : World) (s : StM), WSt w0 b g1 g2 (some ⟨pb, poff, none⟩) n pc fr WA wc OA oc ins wr s → Calls Try.prog 49 #[.pointer (some ⟨b, 0, none⟩), .int .i64 ((k : Int) + 1)] wr fun e w' => e = .returned (.bool (beginT (thereM ins) (wasM outs) ta (k + 1) s).1) ∧
      (WSt w0 b g1 g2 (some ⟨pb, poff, none⟩) n pc fr WA wc OA oc ins w' (beginT (thereM ins) (wasM outs) ta (k + 1) s).2 ∧ Off g1 g2 wr w') := fun wr s h => by
    have := ia wr s h; rwa [show ((k + 1 : Nat) : Int) = (k : Int) + 1 from by omega] at this
  have cb : ∀ (wr : World) (s : StM), WSt w0 b g1 g2 (some ⟨pb, poff, none⟩) n pc fr WA wc OA oc ins wr s → Calls Try.prog 49 #[.pointer (some ⟨b, 0, none⟩), .int .i64 ((k : Int) + 1 + ta.size)] wr fun e w' => e = .returned (.bool (beginT (thereM ins) (wasM outs) tb (k + 1 + ta.size) s).1) ∧
      (WSt w0 b g1 g2 (some ⟨pb, poff, none⟩) n pc fr WA wc OA oc ins w' (beginT (thereM ins) (wasM outs) tb (k + 1 + ta.size) s).2 ∧ Off g1 g2 wr w') := fun wr s h => by
    have := ib wr s h; rwa [show ((k + 1 + ta.size : Nat) : Int) = (k : Int) + 1 + ta.size from by omega] at this
  have IA := Lib.hid ca; have IB := Lib.hid cb; clear ca cb
  generalize hM : beginT (thereM ins) (wasM outs) (.two ⟨6, sg⟩ ta tb) k s = M
  simp only [beginT, choiceM, Int.reduceEq, if_true, if_false] at hM
  clear hp hof h ht ok hle hpl htop hy d0 d1 ia ib hg1 hg2 hsr
  generalize hnx : (k : Int) + (Tr.two ⟨6, sg⟩ ta tb).size = beh at *
  clear hnx
  have HM := Lib.hid hM; clear hM
  go_enter Try.func49, Try.ntmps49
  go_wp2_with fail
  refine (progOf_any _ n pc p k _ ((HP.out.keep HS.out.ext.keeps).keep (((Ext.refl wr).alloc _).alloc _).keeps) (by omega) hkn).mono ?_; rintro e w' ⟨rfl, rfl⟩; rw [HOF.out]
  go_wp2_with fail
  have hx4 : Ext wr ((((wr.alloc (.cells #[.pointer (some ⟨b, 0, none⟩)] 82)).alloc (.cells #[.int .i64 6, .int .i64 sg] 63)).alloc (.cells #[.int .i64 ((k : Int) + 1)] 3)).alloc (.cells #[.int .i64 ((k : Int) + 1 + ta.size)] 3)) := ((((Ext.refl wr).alloc _).alloc _).alloc _).alloc _
  have z0 : ((((wr.alloc (.cells #[.pointer (some ⟨b, 0, none⟩)] 82)).alloc (.cells #[.int .i64 6, .int .i64 sg] 63)).alloc (.cells #[.int .i64 ((k : Int) + 1)] 3)).alloc (.cells #[.int .i64 ((k : Int) + 1 + ta.size)] 3)).cell? ⟨wr.heap.size, 0, none⟩ = some (.pointer (some ⟨b, 0, none⟩)) := by go_simp
  have z1 : ((((wr.alloc (.cells #[.pointer (some ⟨b, 0, none⟩)] 82)).alloc (.cells #[.int .i64 6, .int .i64 sg] 63)).alloc (.cells #[.int .i64 ((k : Int) + 1)] 3)).alloc (.cells #[.int .i64 ((k : Int) + 1 + ta.size)] 3)).cell? ⟨wr.heap.size + 1, 1, none⟩ = some (.int .i64 sg) := by go_simp
  have z6 : ((((wr.alloc (.cells #[.pointer (some ⟨b, 0, none⟩)] 82)).alloc (.cells #[.int .i64 6, .int .i64 sg] 63)).alloc (.cells #[.int .i64 ((k : Int) + 1)] 3)).alloc (.cells #[.int .i64 ((k : Int) + 1 + ta.size)] 3)).cell? ⟨wr.heap.size + 1 + 1, 0, none⟩ = some (.int .i64 ((k : Int) + 1)) := by go_simp
  have z7 : ((((wr.alloc (.cells #[.pointer (some ⟨b, 0, none⟩)] 82)).alloc (.cells #[.int .i64 6, .int .i64 sg] 63)).alloc (.cells #[.int .i64 ((k : Int) + 1)] 3)).alloc (.cells #[.int .i64 ((k : Int) + 1 + ta.size)] 3)).cell? ⟨wr.heap.size + 1 + 1 + 1, 0, none⟩ = some (.int .i64 ((k : Int) + 1 + ta.size)) := by go_simp
  generalize ((((wr.alloc (.cells #[.pointer (some ⟨b, 0, none⟩)] 82)).alloc (.cells #[.int .i64 6, .int .i64 sg] 63)).alloc (.cells #[.int .i64 ((k : Int) + 1)] 3)).alloc (.cells #[.int .i64 ((k : Int) + 1 + ta.size)] 3)) = W4 at *
  have HS4 := Lib.hid (HS.out.more hx4); have HX4 := Lib.hid hx4; clear hx4
  have m1 := HG1.out; have m2 := HG2.out
  have off4 : ∀ w1 : World, Off g1 g2 W4 w1 → w1.cell? ⟨wr.heap.size, 0, none⟩ = some (.pointer (some ⟨b, 0, none⟩)) ∧ w1.cell? ⟨wr.heap.size + 1 + 1, 0, none⟩ = some (.int .i64 ((k : Int) + 1)) ∧ w1.cell? ⟨wr.heap.size + 1 + 1 + 1, 0, none⟩ = some (.int .i64 ((k : Int) + 1 + ta.size)) := fun w1 o =>
    ⟨o.cell z0 (by show wr.heap.size ≠ g1; omega) (by show wr.heap.size ≠ g2; omega), o.cell z6 (by show wr.heap.size + 1 + 1 ≠ g1; omega) (by show wr.heap.size + 1 + 1 ≠ g2; omega), o.cell z7 (by show wr.heap.size + 1 + 1 + 1 ≠ g1; omega) (by show wr.heap.size + 1 + 1 + 1 ≠ g2; omega)⟩
  have OFF4 := Lib.hid off4; clear off4 m1 m2
  go_region_held3 (fun w' => w'.cell? ⟨wr.heap.size, 0, none⟩ = some (.pointer (some ⟨b, 0, none⟩)) ∧ w'.cell? ⟨wr.heap.size + 1 + 1, 0, none⟩ = some (.int .i64 ((k : Int) + 1)) ∧ w'.cell? ⟨wr.heap.size + 1 + 1 + 1, 0, none⟩ = some (.int .i64 ((k : Int) + 1 + ta.size)))
    (first | exact ⟨y0, y6, y7⟩ | go_keep)
    (first | (go_at_call 49; (with_reducible refine (IA.out _ s (HS4.out.more ((Ext.refl W4).drew))).mono ?_); rintro e w1 ⟨rfl, hs1, o1⟩; obtain ⟨y0, y6, y7⟩ := OFF4.out _ ((Off.of_ext ((Ext.refl W4).drew)).trans o1); have HS1 := Lib.hid hs1; have O1 := Lib.hid o1; clear hs1 o1) | (go_at_call 49; (with_reducible refine (IB.out w1 _ HS1.out).mono ?_); rintro e w2 ⟨rfl, hs2, o2⟩; obtain ⟨y0, y6, y7⟩ := OFF4.out _ (((Off.of_ext ((Ext.refl W4).drew)).trans O1.out).trans o2); have HS2 := Lib.hid hs2; have O2 := Lib.hid o2; clear hs2 o2))
  go_wp2
  all_goals
    go_ret
    exact ⟨by rw [← HM.out]; simp_all, by rw [← HM.out]; exact HS2.out, ((Off.of_ext HX4.out).trans ((Off.of_ext ((Ext.refl W4).drew)).trans O1.out)).trans O2.out⟩

set_option maxRecDepth 100000 in
set_option maxHeartbeats 8000000 in
theorem wbegin_if (hp : SlN w0 PA n p) (h0 : 0 ≤ ins) (h8 : ins < 8) (hn : n ≤ 14) (sg : Int) (ta tb : Tr) (k : Nat) (ht : TreeAt p k (.two ⟨7, sg⟩ ta tb)) (ok : (Tr.two ⟨7, sg⟩ ta tb).ok) (hsr : 0 ≤ sg ∧ sg ≤ 2)
    (ia : BeginOK w0 b g1 g2 PA n pc fr WA wc OA oc ins outs ta (k + 1)) (ib : BeginOK w0 b g1 g2 PA n pc fr WA wc OA oc ins outs tb (k + 1 + ta.size)) :
    BeginOK w0 b g1 g2 PA n pc fr WA wc OA oc ins outs (.two ⟨7, sg⟩ ta tb) k := by
  intro wr s h
  have hle := ht.le
  have hpl := hp.1
  have hkn : k < n := by simp [Tr.size] at hle; omega
  have hof := ht.of_two ok
  have htop := ht.top
  obtain ⟨pb, poff, y, rfl, d0, d1, -, hy⟩ := hp.next hkn
  have hyx : y = ⟨7, sg⟩ := by rw [htop] at hy; injection hy with hy; exact hy.symm
  subst hyx
  have c0 := h.c0
  have hbl := lt_of_cell c0
  have e0 := h.ext.keeps _ _ d0; have e1 := h.ext.keeps _ _ d1
  have hpl2 := lt_of_cell e0
  have hg1 : g1 < wr.heap.size := (h.W.lt g1 rfl).2
  have hg2 : g2 < wr.heap.size := (h.O.lt g2 rfl).2
  have HP := Lib.hid hp; have HOF := Lib.hid hof; have HS := Lib.hid h; have HG1 := Lib.hid hg1; have HG2 := Lib.hid hg2; have HSR := Lib.hid hsr
  have ca : ∀ (wr : World) (s : StM), WSt w0 b g1 g2 (some ⟨pb, poff, none⟩) n pc fr WA wc OA oc ins wr s → Calls Try.prog 49 #[.pointer (some ⟨b, 0, none⟩), .int .i64 ((k : Int) + 1)] wr fun e w' => e = .returned (.bool (beginT (thereM ins) (wasM outs) ta (k + 1) s).1) ∧
      (WSt w0 b g1 g2 (some ⟨pb, poff, none⟩) n pc fr WA wc OA oc ins w' (beginT (thereM ins) (wasM outs) ta (k + 1) s).2 ∧ Off g1 g2 wr w') := fun wr s h => by
    have := ia wr s h; rwa [show ((k + 1 : Nat) : Int) = (k : Int) + 1 from by omega] at this
  have cb : ∀ (wr : World) (s : StM), WSt w0 b g1 g2 (some ⟨pb, poff, none⟩) n pc fr WA wc OA oc ins wr s → Calls Try.prog 49 #[.pointer (some ⟨b, 0, none⟩), .int .i64 ((k : Int) + 1 + ta.size)] wr fun e w' => e = .returned (.bool (beginT (thereM ins) (wasM outs) tb (k + 1 + ta.size) s).1) ∧
      (WSt w0 b g1 g2 (some ⟨pb, poff, none⟩) n pc fr WA wc OA oc ins w' (beginT (thereM ins) (wasM outs) tb (k + 1 + ta.size) s).2 ∧ Off g1 g2 wr w') := fun wr s h => by
    have := ib wr s h; rwa [show ((k + 1 + ta.size : Nat) : Int) = (k : Int) + 1 + ta.size from by omega] at this
  have IA := Lib.hid ca; have IB := Lib.hid cb; clear ca cb
  generalize hM : beginT (thereM ins) (wasM outs) (.two ⟨7, sg⟩ ta tb) k s = M
  simp only [beginT, choiceM, Int.reduceEq, if_true, if_false] at hM
  clear hp hof h ht ok hle hpl htop hy d0 d1 ia ib hg1 hg2 hsr
  generalize hnx : (k : Int) + (Tr.two ⟨7, sg⟩ ta tb).size = beh at *
  clear hnx
  cases hr : thereM ins sg
  · rw [hr] at hM
    simp only [Bool.false_eq_true, if_false, if_true] at hM
    have HR := Lib.hid hr; have HM := Lib.hid hM; clear hr hM
    go_enter Try.func49, Try.ntmps49
    go_wp2_with fail
    refine (progOf_any _ n pc p k _ ((HP.out.keep HS.out.ext.keeps).keep (((Ext.refl wr).alloc _).alloc _).keeps) (by omega) hkn).mono ?_; rintro e w' ⟨rfl, rfl⟩; rw [HOF.out]
    go_wp2_with fail
    have hx4 : Ext wr ((((wr.alloc (.cells #[.pointer (some ⟨b, 0, none⟩)] 82)).alloc (.cells #[.int .i64 7, .int .i64 sg] 63)).alloc (.cells #[.int .i64 ((k : Int) + 1)] 3)).alloc (.cells #[.int .i64 ((k : Int) + 1 + ta.size)] 3)) := ((((Ext.refl wr).alloc _).alloc _).alloc _).alloc _
    have z0 : ((((wr.alloc (.cells #[.pointer (some ⟨b, 0, none⟩)] 82)).alloc (.cells #[.int .i64 7, .int .i64 sg] 63)).alloc (.cells #[.int .i64 ((k : Int) + 1)] 3)).alloc (.cells #[.int .i64 ((k : Int) + 1 + ta.size)] 3)).cell? ⟨wr.heap.size, 0, none⟩ = some (.pointer (some ⟨b, 0, none⟩)) := by go_simp
    have z1 : ((((wr.alloc (.cells #[.pointer (some ⟨b, 0, none⟩)] 82)).alloc (.cells #[.int .i64 7, .int .i64 sg] 63)).alloc (.cells #[.int .i64 ((k : Int) + 1)] 3)).alloc (.cells #[.int .i64 ((k : Int) + 1 + ta.size)] 3)).cell? ⟨wr.heap.size + 1, 1, none⟩ = some (.int .i64 sg) := by go_simp
    have z6 : ((((wr.alloc (.cells #[.pointer (some ⟨b, 0, none⟩)] 82)).alloc (.cells #[.int .i64 7, .int .i64 sg] 63)).alloc (.cells #[.int .i64 ((k : Int) + 1)] 3)).alloc (.cells #[.int .i64 ((k : Int) + 1 + ta.size)] 3)).cell? ⟨wr.heap.size + 1 + 1, 0, none⟩ = some (.int .i64 ((k : Int) + 1)) := by go_simp
    have z7 : ((((wr.alloc (.cells #[.pointer (some ⟨b, 0, none⟩)] 82)).alloc (.cells #[.int .i64 7, .int .i64 sg] 63)).alloc (.cells #[.int .i64 ((k : Int) + 1)] 3)).alloc (.cells #[.int .i64 ((k : Int) + 1 + ta.size)] 3)).cell? ⟨wr.heap.size + 1 + 1 + 1, 0, none⟩ = some (.int .i64 ((k : Int) + 1 + ta.size)) := by go_simp
    generalize ((((wr.alloc (.cells #[.pointer (some ⟨b, 0, none⟩)] 82)).alloc (.cells #[.int .i64 7, .int .i64 sg] 63)).alloc (.cells #[.int .i64 ((k : Int) + 1)] 3)).alloc (.cells #[.int .i64 ((k : Int) + 1 + ta.size)] 3)) = W4 at *
    have HS4 := Lib.hid (HS.out.more hx4); have HX4 := Lib.hid hx4; clear hx4
    have m1 := HG1.out; have m2 := HG2.out
    have off4 : ∀ w1 : World, Off g1 g2 W4 w1 → w1.cell? ⟨wr.heap.size, 0, none⟩ = some (.pointer (some ⟨b, 0, none⟩)) ∧ w1.cell? ⟨wr.heap.size + 1 + 1, 0, none⟩ = some (.int .i64 ((k : Int) + 1)) ∧ w1.cell? ⟨wr.heap.size + 1 + 1 + 1, 0, none⟩ = some (.int .i64 ((k : Int) + 1 + ta.size)) := fun w1 o =>
      ⟨o.cell z0 (by show wr.heap.size ≠ g1; omega) (by show wr.heap.size ≠ g2; omega), o.cell z6 (by show wr.heap.size + 1 + 1 ≠ g1; omega) (by show wr.heap.size + 1 + 1 ≠ g2; omega), o.cell z7 (by show wr.heap.size + 1 + 1 + 1 ≠ g1; omega) (by show wr.heap.size + 1 + 1 + 1 ≠ g2; omega)⟩
    have OFF4 := Lib.hid off4; clear off4 m1 m2
    refine (wthere_any w0 b g1 g2 _ n pc fr WA wc OA oc ins W4 s HS4.out h0 h8 sg HSR.out.1 HSR.out.2).mono ?_; rintro e w1 ⟨rfl, rfl⟩; rw [HR.out]
    go_wp2_with fail
    refine (wchoice_any b wr.heap.size _ _ false W4 z0 z6 z7 _ _ (IB.out W4 s HS4.out)).mono ?_; rintro e w1 ⟨rfl, hs1, o1⟩
    have HS1 := Lib.hid hs1; have O1 := Lib.hid o1; clear hs1 o1
    go_wp2
    go_ret
    exact ⟨by rw [← HM.out]; rfl, by rw [← HM.out]; exact HS1.out, (Off.of_ext HX4.out).trans O1.out⟩
  · rw [hr] at hM
    simp only [Bool.false_eq_true, if_false, if_true] at hM
    have HR := Lib.hid hr; have HM := Lib.hid hM; clear hr hM
    go_enter Try.func49, Try.ntmps49
    go_wp2_with fail
    refine (progOf_any _ n pc p k _ ((HP.out.keep HS.out.ext.keeps).keep (((Ext.refl wr).alloc _).alloc _).keeps) (by omega) hkn).mono ?_; rintro e w' ⟨rfl, rfl⟩; rw [HOF.out]
    go_wp2_with fail
    have hx4 : Ext wr ((((wr.alloc (.cells #[.pointer (some ⟨b, 0, none⟩)] 82)).alloc (.cells #[.int .i64 7, .int .i64 sg] 63)).alloc (.cells #[.int .i64 ((k : Int) + 1)] 3)).alloc (.cells #[.int .i64 ((k : Int) + 1 + ta.size)] 3)) := ((((Ext.refl wr).alloc _).alloc _).alloc _).alloc _
    have z0 : ((((wr.alloc (.cells #[.pointer (some ⟨b, 0, none⟩)] 82)).alloc (.cells #[.int .i64 7, .int .i64 sg] 63)).alloc (.cells #[.int .i64 ((k : Int) + 1)] 3)).alloc (.cells #[.int .i64 ((k : Int) + 1 + ta.size)] 3)).cell? ⟨wr.heap.size, 0, none⟩ = some (.pointer (some ⟨b, 0, none⟩)) := by go_simp
    have z1 : ((((wr.alloc (.cells #[.pointer (some ⟨b, 0, none⟩)] 82)).alloc (.cells #[.int .i64 7, .int .i64 sg] 63)).alloc (.cells #[.int .i64 ((k : Int) + 1)] 3)).alloc (.cells #[.int .i64 ((k : Int) + 1 + ta.size)] 3)).cell? ⟨wr.heap.size + 1, 1, none⟩ = some (.int .i64 sg) := by go_simp
    have z6 : ((((wr.alloc (.cells #[.pointer (some ⟨b, 0, none⟩)] 82)).alloc (.cells #[.int .i64 7, .int .i64 sg] 63)).alloc (.cells #[.int .i64 ((k : Int) + 1)] 3)).alloc (.cells #[.int .i64 ((k : Int) + 1 + ta.size)] 3)).cell? ⟨wr.heap.size + 1 + 1, 0, none⟩ = some (.int .i64 ((k : Int) + 1)) := by go_simp
    have z7 : ((((wr.alloc (.cells #[.pointer (some ⟨b, 0, none⟩)] 82)).alloc (.cells #[.int .i64 7, .int .i64 sg] 63)).alloc (.cells #[.int .i64 ((k : Int) + 1)] 3)).alloc (.cells #[.int .i64 ((k : Int) + 1 + ta.size)] 3)).cell? ⟨wr.heap.size + 1 + 1 + 1, 0, none⟩ = some (.int .i64 ((k : Int) + 1 + ta.size)) := by go_simp
    generalize ((((wr.alloc (.cells #[.pointer (some ⟨b, 0, none⟩)] 82)).alloc (.cells #[.int .i64 7, .int .i64 sg] 63)).alloc (.cells #[.int .i64 ((k : Int) + 1)] 3)).alloc (.cells #[.int .i64 ((k : Int) + 1 + ta.size)] 3)) = W4 at *
    have HS4 := Lib.hid (HS.out.more hx4); have HX4 := Lib.hid hx4; clear hx4
    have m1 := HG1.out; have m2 := HG2.out
    have off4 : ∀ w1 : World, Off g1 g2 W4 w1 → w1.cell? ⟨wr.heap.size, 0, none⟩ = some (.pointer (some ⟨b, 0, none⟩)) ∧ w1.cell? ⟨wr.heap.size + 1 + 1, 0, none⟩ = some (.int .i64 ((k : Int) + 1)) ∧ w1.cell? ⟨wr.heap.size + 1 + 1 + 1, 0, none⟩ = some (.int .i64 ((k : Int) + 1 + ta.size)) := fun w1 o =>
      ⟨o.cell z0 (by show wr.heap.size ≠ g1; omega) (by show wr.heap.size ≠ g2; omega), o.cell z6 (by show wr.heap.size + 1 + 1 ≠ g1; omega) (by show wr.heap.size + 1 + 1 ≠ g2; omega), o.cell z7 (by show wr.heap.size + 1 + 1 + 1 ≠ g1; omega) (by show wr.heap.size + 1 + 1 + 1 ≠ g2; omega)⟩
    have OFF4 := Lib.hid off4; clear off4 m1 m2
    refine (wthere_any w0 b g1 g2 _ n pc fr WA wc OA oc ins W4 s HS4.out h0 h8 sg HSR.out.1 HSR.out.2).mono ?_; rintro e w1 ⟨rfl, rfl⟩; rw [HR.out]
    go_wp2_with fail
    refine (wchoice_any b wr.heap.size _ _ true W4 z0 z6 z7 _ _ (IA.out W4 s HS4.out)).mono ?_; rintro e w1 ⟨rfl, hs1, o1⟩
    have HS1 := Lib.hid hs1; have O1 := Lib.hid o1; clear hs1 o1
    go_wp2
    go_ret
    exact ⟨by rw [← HM.out]; rfl, by rw [← HM.out]; exact HS1.out, (Off.of_ext HX4.out).trans O1.out⟩

set_option maxRecDepth 100000 in
set_option maxHeartbeats 8000000 in
theorem wbegin_was (hp : SlN w0 PA n p) (hO : Sl w0 OA 3 (outs.map Bv)) (hn : n ≤ 14) (sg : Int) (ta tb : Tr) (k : Nat) (ht : TreeAt p k (.two ⟨8, sg⟩ ta tb)) (ok : (Tr.two ⟨8, sg⟩ ta tb).ok) (hsr : 0 ≤ sg ∧ sg ≤ 2)
    (ia : BeginOK w0 b g1 g2 PA n pc fr WA wc OA oc ins outs ta (k + 1)) (ib : BeginOK w0 b g1 g2 PA n pc fr WA wc OA oc ins outs tb (k + 1 + ta.size)) :
    BeginOK w0 b g1 g2 PA n pc fr WA wc OA oc ins outs (.two ⟨8, sg⟩ ta tb) k := by
  intro wr s h
  have hle := ht.le
  have hpl := hp.1
  have hkn : k < n := by simp [Tr.size] at hle; omega
  have hof := ht.of_two ok
  have htop := ht.top
  obtain ⟨pb, poff, y, rfl, d0, d1, -, hy⟩ := hp.next hkn
  have hyx : y = ⟨8, sg⟩ := by rw [htop] at hy; injection hy with hy; exact hy.symm
  subst hyx
  have c0 := h.c0
  have hbl := lt_of_cell c0
  have e0 := h.ext.keeps _ _ d0; have e1 := h.ext.keeps _ _ d1
  have hpl2 := lt_of_cell e0
  have hg1 : g1 < wr.heap.size := (h.W.lt g1 rfl).2
  have hg2 : g2 < wr.heap.size := (h.O.lt g2 rfl).2
  have HP := Lib.hid hp; have HOF := Lib.hid hof; have HS := Lib.hid h; have HG1 := Lib.hid hg1; have HG2 := Lib.hid hg2; have HSR := Lib.hid hsr
  have ca : ∀ (wr : World) (s : StM), WSt w0 b g1 g2 (some ⟨pb, poff, none⟩) n pc fr WA wc OA oc ins wr s → Calls Try.prog 49 #[.pointer (some ⟨b, 0, none⟩), .int .i64 ((k : Int) + 1)] wr fun e w' => e = .returned (.bool (beginT (thereM ins) (wasM outs) ta (k + 1) s).1) ∧
      (WSt w0 b g1 g2 (some ⟨pb, poff, none⟩) n pc fr WA wc OA oc ins w' (beginT (thereM ins) (wasM outs) ta (k + 1) s).2 ∧ Off g1 g2 wr w') := fun wr s h => by
    have := ia wr s h; rwa [show ((k + 1 : Nat) : Int) = (k : Int) + 1 from by omega] at this
  have cb : ∀ (wr : World) (s : StM), WSt w0 b g1 g2 (some ⟨pb, poff, none⟩) n pc fr WA wc OA oc ins wr s → Calls Try.prog 49 #[.pointer (some ⟨b, 0, none⟩), .int .i64 ((k : Int) + 1 + ta.size)] wr fun e w' => e = .returned (.bool (beginT (thereM ins) (wasM outs) tb (k + 1 + ta.size) s).1) ∧
      (WSt w0 b g1 g2 (some ⟨pb, poff, none⟩) n pc fr WA wc OA oc ins w' (beginT (thereM ins) (wasM outs) tb (k + 1 + ta.size) s).2 ∧ Off g1 g2 wr w') := fun wr s h => by
    have := ib wr s h; rwa [show ((k + 1 + ta.size : Nat) : Int) = (k : Int) + 1 + ta.size from by omega] at this
  have IA := Lib.hid ca; have IB := Lib.hid cb; clear ca cb
  generalize hM : beginT (thereM ins) (wasM outs) (.two ⟨8, sg⟩ ta tb) k s = M
  simp only [beginT, choiceM, Int.reduceEq, if_true, if_false] at hM
  clear hp hof h ht ok hle hpl htop hy d0 d1 ia ib hg1 hg2 hsr
  generalize hnx : (k : Int) + (Tr.two ⟨8, sg⟩ ta tb).size = beh at *
  clear hnx
  have hOl := hO.len
  obtain ⟨sn, rfl⟩ := Int.eq_ofNat_of_zero_le HSR.out.1
  have hsn : sn < 3 := by have := HSR.out.2; omega
  obtain ⟨ob, ooff, u, rfl, hcu0, hu⟩ := hO.at_ hsn
  have hws : wasM outs (sn : Int) = u := by simp [wasM, hu]
  have HCU := Lib.hid hcu0
  have hq0 : (0 : Int) ≤ (sn : Int) := by omega
  have hq3 : (sn : Int) < 3 := by omega
  clear hO hOl hcu0 hu
  rw [hws] at hM
  clear hws
  cases u
  · simp only [Bool.false_eq_true, if_false, if_true] at hM
    have HM := Lib.hid hM; clear hM
    go_enter Try.func49, Try.ntmps49
    go_wp2_with fail
    refine (progOf_any _ n pc p k _ ((HP.out.keep HS.out.ext.keeps).keep (((Ext.refl wr).alloc _).alloc _).keeps) (by omega) hkn).mono ?_; rintro e w' ⟨rfl, rfl⟩; rw [HOF.out]
    go_wp2_with fail
    have hx4 : Ext wr ((((wr.alloc (.cells #[.pointer (some ⟨b, 0, none⟩)] 82)).alloc (.cells #[.int .i64 8, .int .i64 (sn : Int)] 63)).alloc (.cells #[.int .i64 ((k : Int) + 1)] 3)).alloc (.cells #[.int .i64 ((k : Int) + 1 + ta.size)] 3)) := ((((Ext.refl wr).alloc _).alloc _).alloc _).alloc _
    have z0 : ((((wr.alloc (.cells #[.pointer (some ⟨b, 0, none⟩)] 82)).alloc (.cells #[.int .i64 8, .int .i64 (sn : Int)] 63)).alloc (.cells #[.int .i64 ((k : Int) + 1)] 3)).alloc (.cells #[.int .i64 ((k : Int) + 1 + ta.size)] 3)).cell? ⟨wr.heap.size, 0, none⟩ = some (.pointer (some ⟨b, 0, none⟩)) := by go_simp
    have z1 : ((((wr.alloc (.cells #[.pointer (some ⟨b, 0, none⟩)] 82)).alloc (.cells #[.int .i64 8, .int .i64 (sn : Int)] 63)).alloc (.cells #[.int .i64 ((k : Int) + 1)] 3)).alloc (.cells #[.int .i64 ((k : Int) + 1 + ta.size)] 3)).cell? ⟨wr.heap.size + 1, 1, none⟩ = some (.int .i64 (sn : Int)) := by go_simp
    have z6 : ((((wr.alloc (.cells #[.pointer (some ⟨b, 0, none⟩)] 82)).alloc (.cells #[.int .i64 8, .int .i64 (sn : Int)] 63)).alloc (.cells #[.int .i64 ((k : Int) + 1)] 3)).alloc (.cells #[.int .i64 ((k : Int) + 1 + ta.size)] 3)).cell? ⟨wr.heap.size + 1 + 1, 0, none⟩ = some (.int .i64 ((k : Int) + 1)) := by go_simp
    have z7 : ((((wr.alloc (.cells #[.pointer (some ⟨b, 0, none⟩)] 82)).alloc (.cells #[.int .i64 8, .int .i64 (sn : Int)] 63)).alloc (.cells #[.int .i64 ((k : Int) + 1)] 3)).alloc (.cells #[.int .i64 ((k : Int) + 1 + ta.size)] 3)).cell? ⟨wr.heap.size + 1 + 1 + 1, 0, none⟩ = some (.int .i64 ((k : Int) + 1 + ta.size)) := by go_simp
    generalize ((((wr.alloc (.cells #[.pointer (some ⟨b, 0, none⟩)] 82)).alloc (.cells #[.int .i64 8, .int .i64 (sn : Int)] 63)).alloc (.cells #[.int .i64 ((k : Int) + 1)] 3)).alloc (.cells #[.int .i64 ((k : Int) + 1 + ta.size)] 3)) = W4 at *
    have HS4 := Lib.hid (HS.out.more hx4); have HX4 := Lib.hid hx4; clear hx4
    have m1 := HG1.out; have m2 := HG2.out
    have off4 : ∀ w1 : World, Off g1 g2 W4 w1 → w1.cell? ⟨wr.heap.size, 0, none⟩ = some (.pointer (some ⟨b, 0, none⟩)) ∧ w1.cell? ⟨wr.heap.size + 1 + 1, 0, none⟩ = some (.int .i64 ((k : Int) + 1)) ∧ w1.cell? ⟨wr.heap.size + 1 + 1 + 1, 0, none⟩ = some (.int .i64 ((k : Int) + 1 + ta.size)) := fun w1 o =>
      ⟨o.cell z0 (by show wr.heap.size ≠ g1; omega) (by show wr.heap.size ≠ g2; omega), o.cell z6 (by show wr.heap.size + 1 + 1 ≠ g1; omega) (by show wr.heap.size + 1 + 1 ≠ g2; omega), o.cell z7 (by show wr.heap.size + 1 + 1 + 1 ≠ g1; omega) (by show wr.heap.size + 1 + 1 + 1 ≠ g2; omega)⟩
    have OFF4 := Lib.hid off4; clear off4 m1 m2
    have y3 := HS4.out.c3
    have yo := HS4.out.ext.keeps _ _ HCU.out
    go_still_tail 10, (by kernel_rfl)
    change wpList _ _ _ _ _ W4.drew
    go_wp2_with fail
    refine (wchoice_any b wr.heap.size _ _ false W4.drew z0 z6 z7 _ _ (IB.out W4.drew s (HS4.out.more ((Ext.refl W4).drew)))).mono ?_; rintro e w1 ⟨rfl, hs1, o1⟩
    have HS1 := Lib.hid hs1; have O1 := Lib.hid o1; clear hs1 o1
    go_wp2
    go_ret
    exact ⟨by rw [← HM.out]; rfl, by rw [← HM.out]; exact HS1.out, (Off.of_ext (HX4.out.trans ((Ext.refl W4).drew))).trans O1.out⟩
  · simp only [Bool.false_eq_true, if_false, if_true] at hM
    have HM := Lib.hid hM; clear hM
    go_enter Try.func49, Try.ntmps49
    go_wp2_with fail
    refine (progOf_any _ n pc p k _ ((HP.out.keep HS.out.ext.keeps).keep (((Ext.refl wr).alloc _).alloc _).keeps) (by omega) hkn).mono ?_; rintro e w' ⟨rfl, rfl⟩; rw [HOF.out]
    go_wp2_with fail
    have hx4 : Ext wr ((((wr.alloc (.cells #[.pointer (some ⟨b, 0, none⟩)] 82)).alloc (.cells #[.int .i64 8, .int .i64 (sn : Int)] 63)).alloc (.cells #[.int .i64 ((k : Int) + 1)] 3)).alloc (.cells #[.int .i64 ((k : Int) + 1 + ta.size)] 3)) := ((((Ext.refl wr).alloc _).alloc _).alloc _).alloc _
    have z0 : ((((wr.alloc (.cells #[.pointer (some ⟨b, 0, none⟩)] 82)).alloc (.cells #[.int .i64 8, .int .i64 (sn : Int)] 63)).alloc (.cells #[.int .i64 ((k : Int) + 1)] 3)).alloc (.cells #[.int .i64 ((k : Int) + 1 + ta.size)] 3)).cell? ⟨wr.heap.size, 0, none⟩ = some (.pointer (some ⟨b, 0, none⟩)) := by go_simp
    have z1 : ((((wr.alloc (.cells #[.pointer (some ⟨b, 0, none⟩)] 82)).alloc (.cells #[.int .i64 8, .int .i64 (sn : Int)] 63)).alloc (.cells #[.int .i64 ((k : Int) + 1)] 3)).alloc (.cells #[.int .i64 ((k : Int) + 1 + ta.size)] 3)).cell? ⟨wr.heap.size + 1, 1, none⟩ = some (.int .i64 (sn : Int)) := by go_simp
    have z6 : ((((wr.alloc (.cells #[.pointer (some ⟨b, 0, none⟩)] 82)).alloc (.cells #[.int .i64 8, .int .i64 (sn : Int)] 63)).alloc (.cells #[.int .i64 ((k : Int) + 1)] 3)).alloc (.cells #[.int .i64 ((k : Int) + 1 + ta.size)] 3)).cell? ⟨wr.heap.size + 1 + 1, 0, none⟩ = some (.int .i64 ((k : Int) + 1)) := by go_simp
    have z7 : ((((wr.alloc (.cells #[.pointer (some ⟨b, 0, none⟩)] 82)).alloc (.cells #[.int .i64 8, .int .i64 (sn : Int)] 63)).alloc (.cells #[.int .i64 ((k : Int) + 1)] 3)).alloc (.cells #[.int .i64 ((k : Int) + 1 + ta.size)] 3)).cell? ⟨wr.heap.size + 1 + 1 + 1, 0, none⟩ = some (.int .i64 ((k : Int) + 1 + ta.size)) := by go_simp
    generalize ((((wr.alloc (.cells #[.pointer (some ⟨b, 0, none⟩)] 82)).alloc (.cells #[.int .i64 8, .int .i64 (sn : Int)] 63)).alloc (.cells #[.int .i64 ((k : Int) + 1)] 3)).alloc (.cells #[.int .i64 ((k : Int) + 1 + ta.size)] 3)) = W4 at *
    have HS4 := Lib.hid (HS.out.more hx4); have HX4 := Lib.hid hx4; clear hx4
    have m1 := HG1.out; have m2 := HG2.out
    have off4 : ∀ w1 : World, Off g1 g2 W4 w1 → w1.cell? ⟨wr.heap.size, 0, none⟩ = some (.pointer (some ⟨b, 0, none⟩)) ∧ w1.cell? ⟨wr.heap.size + 1 + 1, 0, none⟩ = some (.int .i64 ((k : Int) + 1)) ∧ w1.cell? ⟨wr.heap.size + 1 + 1 + 1, 0, none⟩ = some (.int .i64 ((k : Int) + 1 + ta.size)) := fun w1 o =>
      ⟨o.cell z0 (by show wr.heap.size ≠ g1; omega) (by show wr.heap.size ≠ g2; omega), o.cell z6 (by show wr.heap.size + 1 + 1 ≠ g1; omega) (by show wr.heap.size + 1 + 1 ≠ g2; omega), o.cell z7 (by show wr.heap.size + 1 + 1 + 1 ≠ g1; omega) (by show wr.heap.size + 1 + 1 + 1 ≠ g2; omega)⟩
    have OFF4 := Lib.hid off4; clear off4 m1 m2
    have y3 := HS4.out.c3
    have yo := HS4.out.ext.keeps _ _ HCU.out
    go_still_tail 10, (by kernel_rfl)
    change wpList _ _ _ _ _ W4.drew
    go_wp2_with fail
    refine (wchoice_any b wr.heap.size _ _ true W4.drew z0 z6 z7 _ _ (IA.out W4.drew s (HS4.out.more ((Ext.refl W4).drew)))).mono ?_; rintro e w1 ⟨rfl, hs1, o1⟩
    have HS1 := Lib.hid hs1; have O1 := Lib.hid o1; clear hs1 o1
    go_wp2
    go_ret
    exact ⟨by rw [← HM.out]; rfl, by rw [← HM.out]; exact HS1.out, (Off.of_ext (HX4.out.trans ((Ext.refl W4).drew))).trans O1.out⟩

theorem wbegin_any (hp : SlN w0 PA n p) (hO : Sl w0 OA 3 (outs.map Bv)) (hn : n ≤ 14) (h0 : 0 ≤ ins) (h8 : ins < 8) : ∀ (t : Tr) (k : Nat), TreeAt p k t → t.ok → (∀ x ∈ t.flat, goodN x) → BeginOK w0 b g1 g2 PA n pc fr WA wc OA oc ins outs t k
  | .leaf x, k, ht, ok, hg => fun wr s h => wbegin_leaf w0 b g1 g2 PA n pc fr WA wc OA oc ins p outs hp hn x k wr s ht ok (hg x (by simp [Tr.flat])) h
  | .two ⟨kd, sg⟩ ta tb, k, ht, ok, hg => by
    have hgs := sub_good hg
    have hx := hg ⟨kd, sg⟩ (by simp [Tr.flat])
    have hsr := leaf_sig' hx
    have ia := wbegin_any hp hO hn h0 h8 ta (k + 1) ht.first ok.2.1 hgs.1
    have ib := wbegin_any hp hO hn h0 h8 tb (k + 1 + ta.size) ht.second ok.2.2 hgs.2
    rcases good_two' ok.1 hx with e | e | e | e
    · simp only at e; subst e; exact wbegin_seq w0 b g1 g2 PA n pc fr WA wc OA oc ins p outs hp hn sg ta tb k ht ok hsr ia ib
    · simp only at e; subst e; exact wbegin_par w0 b g1 g2 PA n pc fr WA wc OA oc ins p outs hp hn sg ta tb k ht ok hsr ia ib
    · simp only at e; subst e; exact wbegin_if w0 b g1 g2 PA n pc fr WA wc OA oc ins p outs hp h0 h8 hn sg ta tb k ht ok hsr ia ib
    · simp only at e; subst e; exact wbegin_was w0 b g1 g2 PA n pc fr WA wc OA oc ins p outs hp hO hn sg ta tb k ht ok hsr ia ib
end
end Go.Proofs.Ytejpnbomlnifkaa
