/- The reference's on walked: two-part nodes. -/
import Derived.Test.YtgohhcnmkomafaaGreatDoorDz05
import Derived.Test.YtgohhcnmkomafaaGreatDoorDz04
import Derived.Recover
import Derived.Test.YtgohhcnmkomafaaGreatDoorDz02
namespace Go.Proofs.YtgohhcnmkomafaaGreatDoor
set_option linter.unusedVariables false
set_option linter.unusedSimpArgs false
set_option linter.unusedVariables false
set_option linter.unusedSimpArgs false
open Go.RowKit
attribute [local go_sem ↓] Go.wp_at_zero Go.wp_at_succ
section
variable (w0 : World) (b g1 g2 g3 : Nat) (PA : Option Addr) (n pc : Nat) (fr : Bool) (WA : Option Addr) (wc : Nat) (OA : Option Addr) (oc ic : Nat) (ins : Int) (p : List PNode) (outs V : List Bool)
theorem writes_off {t : Tr} {k : Nat} {s s' : StM} (h : WritesW t k s s') {j : Nat} (hj : j < k ∨ k + t.size ≤ j) (hz : s.W[j]?.getD false = false) : s'.W[j]?.getD false = false := by
  cases hv : s'.W[j]?.getD false with
  | false => rfl
  | true =>
    rcases h.at_ j hv with q | ⟨q1, x, q2, -⟩
    · rw [hz] at q; exact q.symm
    · have := (List.getElem?_eq_some_iff.1 q2).1
      rw [flat_size] at this; omega
set_option maxRecDepth 100000 in
set_option maxHeartbeats 8000000 in
theorem ron_seq (hp : SlN w0 PA n p) (hV : Sl w0 WA n (V.map Bv)) (hVk : waitsOK p V) (hn : n ≤ 14) (hK : p.any badKind = false) (sg : Int) (ta tb : Tr) (k : Nat) (ht : TreeAt p k (.two ⟨5, sg⟩ ta tb)) (ok : (Tr.two ⟨5, sg⟩ ta tb).ok) (hg : ∀ x ∈ (Tr.two ⟨5, sg⟩ ta tb).flat, goodN x)
    (hor : (someT V ta (k + 1) || someT V tb (k + 1 + ta.size)) = true)
    (ia : ROnOK w0 b g1 g2 g3 PA n pc fr WA wc OA oc ic ins outs V ta (k + 1)) (ib : ROnOK w0 b g1 g2 g3 PA n pc fr WA wc OA oc ic ins outs V tb (k + 1 + ta.size)) (jb : RBeginOK w0 b g1 g2 g3 PA n pc fr WA wc OA oc ic ins outs tb (k + 1 + ta.size)) :
    ROnOK w0 b g1 g2 g3 PA n pc fr WA wc OA oc ic ins outs V (.two ⟨5, sg⟩ ta tb) k := by
  intro wr s h hso hz
  have hle := ht.le
  have hpl := hp.1
  have hsa := size_pos ta
  have hkn : k < n := by simp [Tr.size] at hle; omega
  have hk1 : k + 1 < n := by simp [Tr.size] at hle; have := size_pos tb; omega
  have hon := ht.first.one ok.2.1
  have hce := fun W (hW : SlN W PA n p) => end_any PA n pc p (k + 1) W hW (by omega) hK hk1 (by omega)
  rw [hon, show ((k + 1 : Nat) : Int) = (k : Int) + 1 from by omega] at hce
  have htop := ht.top
  have hgs := sub_good hg
  have sa := fun W s' hw => rsome_any w0 b g1 g2 g3 PA n pc fr WA wc OA oc ic ins p V W s' hw hp hV hn hK (k + 1) ta ht.first ok.2.1
  have sb := fun W s' hw => rsome_any w0 b g1 g2 g3 PA n pc fr WA wc OA oc ic ins p V W s' hw hp hV hn hK (k + 1 + ta.size) tb ht.second ok.2.2
  rw [show ((k + 1 : Nat) : Int) = (k : Int) + 1 from by omega] at sa
  rw [show ((k + 1 + ta.size : Nat) : Int) = (k : Int) + 1 + ta.size from by omega] at sb
  have SA := Lib.hid sa; have SB := Lib.hid sb; clear sa sb
  have za : ∀ j : Nat, k + 1 ≤ j → j < k + 1 + ta.size → s.W[j]?.getD false = false := fun j h1 h2 => hz j (by omega) (by simp only [Tr.size]; omega)
  have zb : ∀ j : Nat, k + 1 + ta.size ≤ j → j < k + 1 + ta.size + tb.size → s.W[j]?.getD false = false := fun j h1 h2 => hz j (by omega) (by simp only [Tr.size]; omega)
  have zc : someT V ta (k + 1) = true → ∀ j : Nat, k + 1 + ta.size ≤ j → j < k + 1 + ta.size + tb.size → (onT (thereM ins) (wasM outs) V ta (k + 1) s).2.W[j]?.getD false = false := fun hs => by
    intro j h1 h2
    have hw := on_writes (thereM ins) (wasM outs) hVk ta (k + 1) s ht.first ok.2.1 hgs.1 hs
    exact writes_off hw (by omega) (zb j h1 h2)
  have ZA := Lib.hid za; have ZB := Lib.hid zb; have ZC := Lib.hid zc; clear za zb zc
  have ca := fun W s' hw hs hz => ia W s' hw hs hz
  have cb := fun W s' hw hs hz => ib W s' hw hs hz
  rw [show ((k + 1 : Nat) : Int) = (k : Int) + 1 from by omega] at ca
  rw [show ((k + 1 + ta.size : Nat) : Int) = (k : Int) + 1 + ta.size from by omega] at cb
  have IA := Lib.hid ca; have IB := Lib.hid cb; clear ca cb
  have cj := fun W s' hw => jb W s' hw
  rw [show ((k + 1 + ta.size : Nat) : Int) = (k : Int) + 1 + ta.size from by omega] at cj
  have JB := Lib.hid cj; clear cj
  obtain ⟨pb, poff, y, rfl, d0, d1, -, hy⟩ := hp.next hkn
  have hyx : y = ⟨5, sg⟩ := by rw [htop] at hy; injection hy with hy; exact hy.symm
  subst hyx
  have c0 := h.c0
  have hbl := lt_of_cell c0
  have e0 := h.ext.keeps _ _ d0; have e1 := h.ext.keeps _ _ d1
  have hpl2 := lt_of_cell e0
  have hx1 := (Ext.refl wr).alloc (.cells #[.int .i64 5, .int .i64 sg] 91)
  have CE := Lib.hid (hce _ ((hp.keep h.ext.keeps).keep hx1.keeps))
  have hg1 : g1 < wr.heap.size := (h.W.lt g1 rfl).2
  have hg2 : g2 < wr.heap.size := (h.O.lt g2 rfl).2
  have HS := Lib.hid h; have HG1 := Lib.hid hg1; have HG2 := Lib.hid hg2; clear hg1 hg2
  generalize hM : onT (thereM ins) (wasM outs) V (.two ⟨5, sg⟩ ta tb) k s = M
  simp only [onT, if_true] at hM
  clear hp h ht ok hg hgs hle hpl htop hy d0 d1 ia ib jb hce hsa hon hso hz hV hVk
  cases hsa : someT V ta (k + 1)
  · rw [hsa] at hM hor
    have hsb : someT V tb (k + 1 + ta.size) = true := by simpa using hor
    simp only [Bool.false_eq_true, if_false] at hM
    have HM := Lib.hid hM; have HSA := Lib.hid hsa; have HSB := Lib.hid hsb; clear hM hsa hsb hor
    go_enter Tryz.func51, Tryz.ntmps51
    go_wp2_with fail
    refine CE.out.mono ?_; rintro e w' ⟨rfl, rfl⟩
    go_wp2_with fail
    refine (SA.out _ s (HS.out.more hx1)).mono ?_; rintro e w1 ⟨rfl, rfl⟩; rw [HSA.out]
    go_wp2_with fail
    refine (IB.out _ s (HS.out.more hx1) HSB.out ZB.out).mono ?_; rintro e w1 ⟨rfl, hs1, o1⟩
    have HS1 := Lib.hid hs1; have O1 := Lib.hid o1; clear hs1 o1
    go_wp2
    go_ret
    exact ⟨by rw [← HM.out]; rfl, by rw [← HM.out]; exact HS1.out, (Off.of_ext hx1).trans O1.out⟩
  · rw [hsa] at hM
    simp only [if_true] at hM
    clear hor
    have HSA := Lib.hid hsa; clear hsa
    cases hr : (onT (thereM ins) (wasM outs) V ta (k + 1) s).1
    all_goals
      rw [hr] at hM
      have HR := Lib.hid hr; have HM := Lib.hid hM; clear hr hM
      go_enter Tryz.func51, Tryz.ntmps51
      go_wp2_with fail
      refine CE.out.mono ?_; rintro e w' ⟨rfl, rfl⟩
      go_wp2_with fail
      refine (SA.out _ s (HS.out.more hx1)).mono ?_; rintro e w1 ⟨rfl, rfl⟩; rw [HSA.out]
      go_wp2_with fail
      refine (IA.out _ s (HS.out.more hx1) HSA.out ZA.out).mono ?_; rintro e w1 ⟨rfl, hs1, o1⟩; rw [HR.out]
      have HS1 := Lib.hid hs1; have O1 := Lib.hid o1; clear hs1 o1
    · go_wp2
      go_ret
      exact ⟨by rw [← HM.out]; rfl, by rw [← HM.out]; exact HS1.out, (Off.of_ext hx1).trans O1.out⟩
    · go_wp2_with fail
      refine (JB.out w1 _ HS1.out).mono ?_; rintro e w2 ⟨rfl, hs2, o2⟩
      have HS2 := Lib.hid hs2; have O2 := Lib.hid o2; clear hs2 o2
      go_wp2
      go_ret
      exact ⟨by rw [← HM.out]; rfl, by rw [← HM.out]; exact HS2.out, ((Off.of_ext hx1).trans O1.out).trans O2.out⟩
set_option maxRecDepth 100000 in
set_option maxHeartbeats 16000000 in
theorem ron_par (hp : SlN w0 PA n p) (hV : Sl w0 WA n (V.map Bv)) (hVk : waitsOK p V) (hn : n ≤ 14) (hK : p.any badKind = false) (kd sg : Int) (hk6 : 6 ≤ kd) (ta tb : Tr) (k : Nat) (ht : TreeAt p k (.two ⟨kd, sg⟩ ta tb)) (ok : (Tr.two ⟨kd, sg⟩ ta tb).ok) (hg : ∀ x ∈ (Tr.two ⟨kd, sg⟩ ta tb).flat, goodN x)
    (ia : ROnOK w0 b g1 g2 g3 PA n pc fr WA wc OA oc ic ins outs V ta (k + 1)) (ib : ROnOK w0 b g1 g2 g3 PA n pc fr WA wc OA oc ic ins outs V tb (k + 1 + ta.size)) :
    ROnOK w0 b g1 g2 g3 PA n pc fr WA wc OA oc ic ins outs V (.two ⟨kd, sg⟩ ta tb) k := by
  intro wr s h hso hz
  have hle := ht.le
  have hpl := hp.1
  have hsa := size_pos ta
  have hkn : k < n := by simp [Tr.size] at hle; omega
  have hk1 : k + 1 < n := by simp [Tr.size] at hle; have := size_pos tb; omega
  have hon := ht.first.one ok.2.1
  have hce := fun W (hW : SlN W PA n p) => end_any PA n pc p (k + 1) W hW (by omega) hK hk1 (by omega)
  rw [hon, show ((k + 1 : Nat) : Int) = (k : Int) + 1 from by omega] at hce
  have htop := ht.top
  have hgs := sub_good hg
  have sa := fun W s' hw => rsome_any w0 b g1 g2 g3 PA n pc fr WA wc OA oc ic ins p V W s' hw hp hV hn hK (k + 1) ta ht.first ok.2.1
  have sb := fun W s' hw => rsome_any w0 b g1 g2 g3 PA n pc fr WA wc OA oc ic ins p V W s' hw hp hV hn hK (k + 1 + ta.size) tb ht.second ok.2.2
  rw [show ((k + 1 : Nat) : Int) = (k : Int) + 1 from by omega] at sa
  rw [show ((k + 1 + ta.size : Nat) : Int) = (k : Int) + 1 + ta.size from by omega] at sb
  have SA := Lib.hid sa; have SB := Lib.hid sb; clear sa sb
  have za : ∀ j : Nat, k + 1 ≤ j → j < k + 1 + ta.size → s.W[j]?.getD false = false := fun j h1 h2 => hz j (by omega) (by simp only [Tr.size]; omega)
  have zb : ∀ j : Nat, k + 1 + ta.size ≤ j → j < k + 1 + ta.size + tb.size → s.W[j]?.getD false = false := fun j h1 h2 => hz j (by omega) (by simp only [Tr.size]; omega)
  have zc : someT V ta (k + 1) = true → ∀ j : Nat, k + 1 + ta.size ≤ j → j < k + 1 + ta.size + tb.size → (onT (thereM ins) (wasM outs) V ta (k + 1) s).2.W[j]?.getD false = false := fun hs => by
    intro j h1 h2
    have hw := on_writes (thereM ins) (wasM outs) hVk ta (k + 1) s ht.first ok.2.1 hgs.1 hs
    exact writes_off hw (by omega) (zb j h1 h2)
  have ZA := Lib.hid za; have ZB := Lib.hid zb; have ZC := Lib.hid zc; clear za zb zc
  have ca := fun W s' hw hs hz => ia W s' hw hs hz
  have cb := fun W s' hw hs hz => ib W s' hw hs hz
  rw [show ((k + 1 : Nat) : Int) = (k : Int) + 1 from by omega] at ca
  rw [show ((k + 1 + ta.size : Nat) : Int) = (k : Int) + 1 + ta.size from by omega] at cb
  have IA := Lib.hid ca; have IB := Lib.hid cb; clear ca cb
  obtain ⟨pb, poff, y, rfl, d0, d1, -, hy⟩ := hp.next hkn
  have hyx : y = ⟨kd, sg⟩ := by rw [htop] at hy; injection hy with hy; exact hy.symm
  subst hyx
  have c0 := h.c0
  have hbl := lt_of_cell c0
  have e0 := h.ext.keeps _ _ d0; have e1 := h.ext.keeps _ _ d1
  have hpl2 := lt_of_cell e0
  have hx1 := (Ext.refl wr).alloc (.cells #[.int .i64 kd, .int .i64 sg] 91)
  have CE := Lib.hid (hce _ ((hp.keep h.ext.keeps).keep hx1.keeps))
  have hg1 : g1 < wr.heap.size := (h.W.lt g1 rfl).2
  have hg2 : g2 < wr.heap.size := (h.O.lt g2 rfl).2
  have HS := Lib.hid h; have HG1 := Lib.hid hg1; have HG2 := Lib.hid hg2; clear hg1 hg2
  generalize hM : onT (thereM ins) (wasM outs) V (.two ⟨kd, sg⟩ ta tb) k s = M
  rw [onT_parts _ _ _ _ _ _ _ _ (by simp only; omega)] at hM
  have t1 : (kd == 1) = false := by simp; omega
  have t2 : (kd == 2) = false := by simp; omega
  have t4 : (kd == 4) = false := by simp; omega
  have t5 : (kd == 5) = false := by simp; omega
  clear hp h ht ok hg hgs hle hpl htop hy d0 d1 ia ib hce hsa hon hso hz hV hVk
  cases hsa : someT V ta (k + 1)
  · cases hsb : someT V tb (k + 1 + ta.size)
    · simp only [partT, hsa, hsb, Bool.false_eq_true, if_false, Bool.and_true] at hM
      have HSA := Lib.hid hsa; have HSB := Lib.hid hsb; have HM := Lib.hid hM; clear hM hsa hsb
      go_enter Tryz.func51, Tryz.ntmps51
      go_wp2_with fail
      refine CE.out.mono ?_; rintro e w' ⟨rfl, rfl⟩
      go_wp2_with fail
      refine (SA.out _ s (HS.out.more hx1)).mono ?_; rintro e w1 ⟨rfl, rfl⟩; rw [HSA.out]
      go_wp2_with fail
      refine (SB.out _ s (HS.out.more hx1)).mono ?_; rintro e w1 ⟨rfl, rfl⟩; rw [HSB.out]
      go_wp2
      go_ret
      exact ⟨by rw [← HM.out] <;> rfl, by rw [← HM.out]; exact HS.out.more hx1, Off.of_ext hx1⟩
    · simp only [partT, hsa, hsb, Bool.false_eq_true, if_false, if_true, Bool.true_and] at hM
      cases hr : (onT (thereM ins) (wasM outs) V tb (k + 1 + ta.size) s).1
      all_goals
        rw [hr] at hM
        have HR := Lib.hid hr; have HSA := Lib.hid hsa; have HSB := Lib.hid hsb; have HM := Lib.hid hM; clear hM hr
        go_enter Tryz.func51, Tryz.ntmps51
        go_wp2_with fail
        refine CE.out.mono ?_; rintro e w' ⟨rfl, rfl⟩
        go_wp2_with fail
        refine (SA.out _ s (HS.out.more hx1)).mono ?_; rintro e w1 ⟨rfl, rfl⟩; rw [HSA.out]
        go_wp2_with fail
        refine (SB.out _ s (HS.out.more hx1)).mono ?_; rintro e w1 ⟨rfl, rfl⟩; rw [HSB.out]
        go_wp2_with fail
        refine (IB.out _ s (HS.out.more hx1) HSB.out ZB.out).mono ?_; rintro e w1 ⟨rfl, hs1, o1⟩; rw [HR.out]
        have HS1 := Lib.hid hs1; have O1 := Lib.hid o1; clear hs1 o1
        go_wp2
        go_ret
        exact ⟨by rw [← HM.out]; rfl, by rw [← HM.out]; exact HS1.out, (Off.of_ext hx1).trans O1.out⟩
  · have hZC := ZC.out hsa
    have ZD := Lib.hid hZC; clear hZC
    cases hsb : someT V tb (k + 1 + ta.size)
    · simp only [partT, hsa, hsb, Bool.false_eq_true, if_false, if_true, Bool.and_true] at hM
      cases hr : (onT (thereM ins) (wasM outs) V ta (k + 1) s).1
      all_goals
        rw [hr] at hM
        have HR := Lib.hid hr; have HSA := Lib.hid hsa; have HSB := Lib.hid hsb; have HM := Lib.hid hM; clear hM hr
        go_enter Tryz.func51, Tryz.ntmps51
        go_wp2_with fail
        refine CE.out.mono ?_; rintro e w' ⟨rfl, rfl⟩
        go_wp2_with fail
        refine (SA.out _ s (HS.out.more hx1)).mono ?_; rintro e w1 ⟨rfl, rfl⟩; rw [HSA.out]
        go_wp2_with fail
        refine (IA.out _ s (HS.out.more hx1) HSA.out ZA.out).mono ?_; rintro e w1 ⟨rfl, hs1, o1⟩; rw [HR.out]
        have HS1 := Lib.hid hs1; have O1 := Lib.hid o1; clear hs1 o1
        go_wp2_with fail
        refine (SB.out _ _ HS1.out).mono ?_; rintro e w1 ⟨rfl, rfl⟩; rw [HSB.out]
        go_wp2
        go_ret
        exact ⟨by rw [← HM.out] <;> rfl, by rw [← HM.out]; exact HS1.out, (Off.of_ext hx1).trans O1.out⟩
    · simp only [partT, hsa, hsb, Bool.false_eq_true, if_false, if_true] at hM
      cases hr : (onT (thereM ins) (wasM outs) V ta (k + 1) s).1 <;> cases hr2 : (onT (thereM ins) (wasM outs) V tb (k + 1 + ta.size) (onT (thereM ins) (wasM outs) V ta (k + 1) s).2).1
      all_goals
        rw [hr, hr2] at hM
        have HR := Lib.hid hr; have HR2 := Lib.hid hr2; have HSA := Lib.hid hsa; have HSB := Lib.hid hsb; have HM := Lib.hid hM; clear hM hr hr2
        go_enter Tryz.func51, Tryz.ntmps51
        go_wp2_with fail
        refine CE.out.mono ?_; rintro e w' ⟨rfl, rfl⟩
        go_wp2_with fail
        refine (SA.out _ s (HS.out.more hx1)).mono ?_; rintro e w1 ⟨rfl, rfl⟩; rw [HSA.out]
        go_wp2_with fail
        refine (IA.out _ s (HS.out.more hx1) HSA.out ZA.out).mono ?_; rintro e w1 ⟨rfl, hs1, o1⟩; rw [HR.out]
        have HS1 := Lib.hid hs1; have O1 := Lib.hid o1; clear hs1 o1
        go_wp2_with fail
        refine (SB.out _ _ HS1.out).mono ?_; rintro e w2 ⟨rfl, rfl⟩; rw [HSB.out]
        go_wp2_with fail
        refine (IB.out _ _ HS1.out HSB.out ZD.out).mono ?_; rintro e w2 ⟨rfl, hs2, o2⟩; rw [HR2.out]
        have HS2 := Lib.hid hs2; have O2 := Lib.hid o2; clear hs2 o2
        go_wp2
        go_ret
        exact ⟨by rw [← HM.out]; rfl, by rw [← HM.out]; exact HS2.out, ((Off.of_ext hx1).trans O1.out).trans O2.out⟩
theorem ron_any (hp : SlN w0 PA n p) (hO : Sl w0 OA 3 (outs.map Bv)) (hV : Sl w0 WA n (V.map Bv)) (hn : n ≤ 14) (hK : p.any badKind = false) (hVk : waitsOK p V) : ∀ (t : Tr) (k : Nat), TreeAt p k t → t.ok → (∀ x ∈ t.flat, goodN x) → ROnOK w0 b g1 g2 g3 PA n pc fr WA wc OA oc ic ins outs V t k
  | .leaf x, k, ht, ok, hg => ron_leaf w0 b g1 g2 g3 PA n pc fr WA wc OA oc ic ins p outs V hp hn hVk x k ht ok (hg x (by simp [Tr.flat]))
  | .two ⟨kd, sg⟩ ta tb, k, ht, ok, hg => by
    have hgs := sub_good hg
    have hx := hg ⟨kd, sg⟩ (by simp [Tr.flat])
    have ia := ron_any hp hO hV hn hK hVk ta (k + 1) ht.first ok.2.1 hgs.1
    have ib := ron_any hp hO hV hn hK hVk tb (k + 1 + ta.size) ht.second ok.2.2 hgs.2
    have jb := rbegin_any w0 b g1 g2 g3 PA n pc fr WA wc OA oc ic ins p outs hp hO hn hK tb (k + 1 + ta.size) ht.second ok.2.2 hgs.2
    by_cases e : kd = 5
    · subst e
      intro wr s h hso hz
      exact ron_seq w0 b g1 g2 g3 PA n pc fr WA wc OA oc ic ins p outs V hp hV hVk hn hK sg ta tb k ht ok hg (by rcases some_two hVk ht ok hso with q | q <;> simp [q]) ia ib jb wr s h hso hz
    · have h6 : 6 ≤ kd := by rcases good_two' ok.1 hx with q | q | q | q <;> simp only at q <;> omega
      exact ron_par w0 b g1 g2 g3 PA n pc fr WA wc OA oc ic ins p outs V hp hV hVk hn hK kd sg h6 ta tb k ht ok hg ia ib
end
end Go.Proofs.YtgohhcnmkomafaaGreatDoor
/- net.Check's deferred closure walked. -/
namespace Go.Proofs.YtgohhcnmkomafaaGreatDoor
set_option linter.unusedVariables false
set_option linter.unusedSimpArgs false
open Go.RowKit
end Go.Proofs.YtgohhcnmkomafaaGreatDoor
/- net.form, slices.Clone at []int. -/
namespace Go.Proofs.YtgohhcnmkomafaaGreatDoor
set_option linter.unusedVariables false
set_option linter.unusedSimpArgs false
open Go.RowKit
theorem tab_int' : (Tryz.prog.info? 3).map (fun i => (i.zero, i.size, i.bytes)) = some (some (.int .i64 0), 1, 8) := by kernel_rfl
end Go.Proofs.YtgohhcnmkomafaaGreatDoor
/- power and bits of the reference. -/
namespace Go.Proofs.YtgohhcnmkomafaaGreatDoor
set_option linter.unusedVariables false
set_option linter.unusedSimpArgs false
open Go.RowKit
theorem power_any (w : World) : ∀ k : Nat, k ≤ 60 → Calls Tryz.prog 45 #[I k] w fun e w' => e = .returned (I (2 ^ k : Nat)) ∧ w = w'
  | 0, _ => by
    go_enter Tryz.func45, Tryz.ntmps45
    go_wp2
    go_ret
    exact ⟨rfl, rfl⟩
  | k + 1, hk => by
    have ih := power_any w k (by omega)
    have hp : 2 ^ k ≤ 2 ^ 60 := Nat.pow_le_pow_right (by omega) (by omega)
    have h2 : 2 ^ (k + 1) = 2 * 2 ^ k := by rw [Nat.pow_succ]; omega
    rw [h2]
    have hle : ¬ ((k + 1 : Nat) : Int) ≤ 0 := by omega
    have IH := Lib.hid ih; clear ih h2
    have hs : IntKind.i64.wrap (((k + 1 : Nat) : Int) - 1) = k := by rw [show ((k + 1 : Nat) : Int) - 1 = k from by omega]; exact IntWalk.i64_in _ (by omega)
    generalize 2 ^ k = q at *
    have hq : q ≤ 1152921504606846976 := by simpa using hp
    clear hp
    go_enter Tryz.func45, Tryz.ntmps45
    go_wp2_with fail
    refine IH.out.mono ?_; rintro e w' ⟨rfl, rfl⟩
    go_wp2
    go_ret
    exact ⟨by simp, rfl⟩
set_option maxHeartbeats 1000000 in
set_option maxRecDepth 100000 in
theorem rbits_any (x : Int) (n : Nat) (w : World) (hx0 : 0 ≤ x) (hx1 : x < 1073741824) (hn : n ≤ 1000) :
    Calls Tryz.prog 46 #[I x, I n] w fun e w' => ∃ v, e = .returned v ∧ w'.ownsRow w.heap.size 3 1 v n ((bitsM x n).map I) ∧ Ext w w' := by
  go_enter Tryz.func46, Tryz.ntmps46
  go_wp2
  go_loopw [0, 5, 6] (fun x' v i wr => ∃ (k : Nat) (y : Int) (zs : List Int), k ≤ n ∧ x' = .int .i64 y ∧ 0 ≤ y ∧ y < 1073741824 ∧ i = .int .i64 k ∧ Ext w wr ∧ wr.ownsRow w.heap.size 3 1 v k (zs.map I) ∧ zs ++ bitsM y (n - k) = bitsM x n) (fun _ _ i _ => n - (intOf i).toNat)
  case atStart => exact ⟨0, x, [], Nat.zero_le _, rfl, hx0, hx1, rfl, Ext.refl _, World.ownsRow_nil _ _ _ _, rfl⟩
  case round =>
    obtain ⟨k, y, zs, hk, rfl, hy0, hy1, rfl, hext, hown, hM⟩ := hrel
    by_cases hlt : k < n
    · rw [show n - k = (n - (k + 1)) + 1 from by omega, bitsM] at hM
      have HM := Lib.hid hM; clear hM
      have HO := Lib.hid hown; clear hown
      go_wp2_with ((at_builtin; refine wpList_push rfl (.tmp 12) (.tmp 15) 82 3 rfl tab_int' Tryz.underlying82 rfl (by omega) w wr hext _ k _ rfl HO.out [I (y % 2)] rfl rfl rfl (by simp [Value.oneCell']) (by unfold maxLen; omega) (by omega) ?_; intro v' w2 hown2 hx3 _))
      go_roundw
      case rel => exact ⟨k + 1, y / 2, zs ++ [y % 2], by omega, by go_num, by omega, by omega, by go_num, hx3, by simpa using hown2, by rw [← HM.out]; simp⟩
      case measure => simp [intOf]; omega
    · have hkn : k = n := by omega
      subst hkn
      have hz : zs = bitsM x k := by rw [← hM]; simp [bitsM]
      subst hz
      have HO := Lib.hid hown
      clear hM hown
      go_wp2
      go_ret
      exact ⟨_, rfl, HO.out, hext⟩
end Go.Proofs.YtgohhcnmkomafaaGreatDoor
/- Fresh, bits, power of the reference; both Checks of a rest. -/
namespace Go.Proofs.YtgohhcnmkomafaaGreatDoor
set_option linter.unusedVariables false
set_option linter.unusedSimpArgs false
open Go.RowKit
set_option maxHeartbeats 2000000 in
theorem rfresh_any (A : Option Addr) (n c : Nat) (w : World) (hn : n ≤ 14) :
    Calls Tryz.prog 17 #[.slice A n c] w fun e w' => ∃ g1 g2, e = .returned (.agg #[Bv true, .slice (some ⟨g1, 0, none⟩) n n, .slice (some ⟨g2, 0, none⟩) 3 3]) ∧ w.heap.size ≤ g1 ∧ w.heap.size ≤ g2 ∧ g1 ≠ g2 ∧
      w'.ownsRow w.heap.size 4 1 (.slice (some ⟨g1, 0, none⟩) n n) n ((List.replicate n false).map Bv) ∧ w'.ownsRow w.heap.size 4 1 (.slice (some ⟨g2, 0, none⟩) 3 3) 3 (([false, false, false] : List Bool).map Bv) ∧ Ext w w' := by
  have hmk := fun W => run_make1 (P := Tryz.prog) 32 4 tab_bool Tryz.underlying32 rfl n (by omega) (by omega) W
  have hm3 : ∀ W, (Instr.makeSlice 32 (.int .i64 3) (.int .i64 3)).run Tryz.prog W = .ok (.slice (some ⟨W.heap.size, 0, none⟩) 3 3) (W.alloc (.cells (zeros (.bool false) 3) 4)) := fun W => run_make1 (P := Tryz.prog) 32 4 tab_bool Tryz.underlying32 rfl 3 (by omega) (by omega) W
  go_enter Tryz.func17, Tryz.ntmps17
  go_wp2_with fail
  go_region
  · go_wp2
    refine bodyPost_ret (v := .agg #[Bv true, .slice (some ⟨w.heap.size + 1, 0, none⟩) n n, .slice (some ⟨w.heap.size + 1 + 1, 0, none⟩) 3 3]) (by simp [results, Tryz.results17, go_sem]) rfl ⟨w.heap.size + 1, w.heap.size + 1 + 1, rfl, by omega, by omega, by omega, ?_, ?_, (((Ext.refl w).alloc _).alloc _).alloc _ |>.drew⟩
    · have := own_ext (own_made (w.alloc (.cells #[.bool true, .slice (some ⟨w.heap.size + 1, 0, none⟩) n n, .slice (some ⟨w.heap.size + 1 + 1, 0, none⟩) 3 3] 34)) 4 (.bool false) n w.heap.size (by simp) (by unfold maxLen; omega)) (((Ext.refl _).alloc (.cells (zeros (.bool false) 3) 4)).drew)
      simpa using this
    · have := own_ext (own_made ((w.alloc (.cells #[.bool true, .slice (some ⟨w.heap.size + 1, 0, none⟩) n n, .slice (some ⟨w.heap.size + 1 + 1, 0, none⟩) 3 3] 34)).alloc (.cells (zeros (.bool false) n) 4)) 4 (.bool false) 3 w.heap.size (by simp; omega) (by unfold maxLen; omega)) ((Ext.refl _).drew)
      simpa using this
  · go_wp2
    refine bodyPost_ret (v := .agg #[Bv true, .slice (some ⟨w.heap.size + 1 + 1, 0, none⟩) n n, .slice (some ⟨w.heap.size + 1, 0, none⟩) 3 3]) (by simp [results, Tryz.results17, go_sem]) rfl ⟨w.heap.size + 1 + 1, w.heap.size + 1, rfl, by omega, by omega, by omega, ?_, ?_, (((Ext.refl w).alloc _).alloc _).alloc _ |>.drew⟩
    · have := own_ext (own_made ((w.alloc (.cells #[.bool true, .slice (some ⟨w.heap.size + 1 + 1, 0, none⟩) n n, .slice (some ⟨w.heap.size + 1, 0, none⟩) 3 3] 34)).alloc (.cells (zeros (.bool false) 3) 4)) 4 (.bool false) n w.heap.size (by simp; omega) (by unfold maxLen; omega)) ((Ext.refl _).drew)
      simpa using this
    · have := own_ext (own_made (w.alloc (.cells #[.bool true, .slice (some ⟨w.heap.size + 1 + 1, 0, none⟩) n n, .slice (some ⟨w.heap.size + 1, 0, none⟩) 3 3] 34)) 4 (.bool false) 3 w.heap.size (by simp) (by unfold maxLen; omega)) (((Ext.refl _).alloc (.cells (zeros (.bool false) n) 4)).drew)
      simpa using this
end Go.Proofs.YtgohhcnmkomafaaGreatDoor
