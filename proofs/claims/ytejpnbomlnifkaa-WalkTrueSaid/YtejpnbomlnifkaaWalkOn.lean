/- The walker's on walked. -/
import Derived.Test.YtejpnbomlnifkaaWalkBegin2
namespace Go.Proofs.Ytejpnbomlnifkaa
set_option linter.unusedVariables false
set_option linter.unusedSimpArgs false
open Go.RowKit

def partT (th wa : Int → Bool) (V : List Bool) (t : Tr) (k : Nat) (s : StM) : Bool × StM := if someT V t k then onT th wa V t k s else (true, s)
theorem onT_parts (th wa : Int → Bool) (V : List Bool) (x : PNode) (a b : Tr) (k : Nat) (s : StM) (hx : ¬ x.kind = 5) :
    onT th wa V (.two x a b) k s = ((partT th wa V a (k + 1) s).1 && (partT th wa V b (k + 1 + a.size) (partT th wa V a (k + 1) s).2).1, (partT th wa V b (k + 1 + a.size) (partT th wa V a (k + 1) s).2).2) := by
  simp only [onT, if_neg hx, partT]
  cases someT V a (k + 1) <;> cases someT V b (k + 1 + a.size) <;> simp

section
variable (w0 : World) (b g1 g2 : Nat) (PA : Option Addr) (n pc : Nat) (fr : Bool) (WA : Option Addr) (wc : Nat) (OA : Option Addr) (oc : Nat) (ins : Int) (p : List PNode) (outs V : List Bool)
/-- What is told of on. -/
def OnOK (t : Tr) (k : Nat) : Prop := ∀ (wr : World) (s : StM), WSt w0 b g1 g2 PA n pc fr WA wc OA oc ins wr s → someT V t k = true →
  Calls Try.prog 51 #[.pointer (some ⟨b, 0, none⟩), I k] wr fun e w' => e = .returned (.bool (onT (thereM ins) (wasM outs) V t k s).1) ∧
      (WSt w0 b g1 g2 PA n pc fr WA wc OA oc ins w' (onT (thereM ins) (wasM outs) V t k s).2 ∧ Off g1 g2 wr w')

set_option maxRecDepth 100000 in
set_option maxHeartbeats 4000000 in
theorem won_leaf (hp : SlN w0 PA n p) (hn : n ≤ 14) (h0 : 0 ≤ ins) (h8 : ins < 8) (hVk : waitsOK p V) (x : PNode) (k : Nat) (ht : TreeAt p k (.leaf x)) (ok : (Tr.leaf x).ok) (hg : goodN x) : OnOK w0 b g1 g2 PA n pc fr WA wc OA oc ins outs V (.leaf x) k := by
  intro wr s h hso
  have hle := ht.le
  have hpl := hp.1
  have hkn : k < n := by simp [Tr.size] at hle; omega
  have hsr := leaf_sig' hg
  have htop := ht.top
  have hw : waitK x.kind = true := by
    obtain ⟨y, h1, h2⟩ := hVk k (some_leaf hso)
    rw [htop] at h1; injection h1 with h1; rw [← h1] at h2; exact h2
  have hk : x.kind = 1 ∨ x.kind = 2 ∨ x.kind = 4 := by simpa [waitK, or_assoc] using hw
  obtain ⟨pb, poff, y, rfl, d0, d1, -, hy⟩ := hp.next hkn
  have hyx : y = x := by rw [htop] at hy; injection hy with hy; exact hy.symm
  subst hyx
  have c0 := h.c0
  have hbl := lt_of_cell c0
  have e0 := h.ext.keeps _ _ d0; have e1 := h.ext.keeps _ _ d1
  have hpl2 := lt_of_cell e0
  have HS := Lib.hid h; have HSR := Lib.hid hsr
  obtain ⟨kd, sg⟩ := y
  generalize hM : onT (thereM ins) (wasM outs) V (.leaf ⟨kd, sg⟩) k s = M
  simp only [onT] at hM
  clear hp h ht ok hg hle hpl htop hy d0 d1 hVk hw hso hsr
  rcases hk with rfl | rfl | rfl
  · have HM := Lib.hid hM; clear hM
    go_enter Try.func51, Try.ntmps51
    go_wp2
    go_ret
    exact ⟨by rw [← HM.out]; rfl, by rw [← HM.out]; exact HS.out.more ((Ext.refl wr).alloc _), .of_ext ((Ext.refl wr).alloc _)⟩
  · have HM := Lib.hid hM; clear hM
    go_enter Try.func51, Try.ntmps51
    go_wp2_with fail
    have hx1 := (Ext.refl wr).alloc (.cells #[.int .i64 2, .int .i64 sg] 63)
    refine (wwait_any w0 b g1 g2 _ n pc fr WA wc OA oc ins _ s (HS.out.more hx1) k hkn).mono ?_; rintro e w' ⟨rfl, rfl⟩
    go_wp2
    go_ret
    exact ⟨by rw [← HM.out]; rfl, by rw [← HM.out]; exact (HS.out.more hx1).setW k, (Off.of_ext hx1).set1 k _⟩
  · simp only [Int.reduceEq, if_false] at hM
    have hx1 := (Ext.refl wr).alloc (.cells #[.int .i64 4, .int .i64 sg] 63)
    cases hr : thereM ins sg
    · rw [hr] at hM
      simp only [Bool.false_eq_true, if_false] at hM
      have HM := Lib.hid hM; have HR := Lib.hid hr; clear hM hr
      go_enter Try.func51, Try.ntmps51
      go_wp2_with fail
      refine (wthere_any w0 b g1 g2 _ n pc fr WA wc OA oc ins _ s (HS.out.more hx1) h0 h8 sg HSR.out.1 HSR.out.2).mono ?_; rintro e w1 ⟨rfl, rfl⟩; rw [HR.out]
      go_wp2_with fail
      refine (wwait_any w0 b g1 g2 _ n pc fr WA wc OA oc ins _ s (HS.out.more hx1) k hkn).mono ?_; rintro e w' ⟨rfl, rfl⟩
      go_wp2
      go_ret
      exact ⟨by rw [← HM.out]; rfl, by rw [← HM.out]; exact (HS.out.more hx1).setW k, (Off.of_ext hx1).set1 k _⟩
    · rw [hr] at hM
      simp only [if_true] at hM
      have HM := Lib.hid hM; have HR := Lib.hid hr; clear hM hr
      go_enter Try.func51, Try.ntmps51
      go_wp2_with fail
      refine (wthere_any w0 b g1 g2 _ n pc fr WA wc OA oc ins _ s (HS.out.more hx1) h0 h8 sg HSR.out.1 HSR.out.2).mono ?_; rintro e w1 ⟨rfl, rfl⟩; rw [HR.out]
      go_wp2
      go_ret
      exact ⟨by rw [← HM.out]; rfl, by rw [← HM.out]; exact HS.out.more hx1, Off.of_ext hx1⟩

set_option maxRecDepth 100000 in
set_option maxHeartbeats 8000000 in
theorem won_seq (hp : SlN w0 PA n p) (hV : Sl w0 WA n (V.map Bv)) (hwc : n ≤ wc) (hn : n ≤ 14) (sg : Int) (ta tb : Tr) (k : Nat) (ht : TreeAt p k (.two ⟨5, sg⟩ ta tb)) (ok : (Tr.two ⟨5, sg⟩ ta tb).ok) (hsb : someT V (.two ⟨5, sg⟩ ta tb) k = true → someT V ta (k + 1) = true ∨ someT V tb (k + 1 + ta.size) = true)
    (ia : OnOK w0 b g1 g2 PA n pc fr WA wc OA oc ins outs V ta (k + 1)) (ib : OnOK w0 b g1 g2 PA n pc fr WA wc OA oc ins outs V tb (k + 1 + ta.size)) (jb : BeginOK w0 b g1 g2 PA n pc fr WA wc OA oc ins outs tb (k + 1 + ta.size)) :
    OnOK w0 b g1 g2 PA n pc fr WA wc OA oc ins outs V (.two ⟨5, sg⟩ ta tb) k := by
  intro wr s h hso
  have hor := hsb hso
  have hle := ht.le
  have hpl := hp.1
  have hkn : k < n := by simp [Tr.size] at hle; omega
  have hof := ht.of_two ok
  have htop := ht.top
  have sa := fun W s' hw => wsome_any w0 b g1 g2 PA n pc fr WA wc OA oc ins W s' hw p V hp hV hwc hn (k + 1) ta ht.first ok.2.1
  rw [show ((k + 1 : Nat) : Int) = (k : Int) + 1 from by omega] at sa
  have SA := Lib.hid sa; clear sa
  obtain ⟨pb, poff, y, rfl, d0, d1, -, hy⟩ := hp.next hkn
  have hyx : y = ⟨5, sg⟩ := by rw [htop] at hy; injection hy with hy; exact hy.symm
  subst hyx
  have c0 := h.c0
  have hbl := lt_of_cell c0
  have e0 := h.ext.keeps _ _ d0; have e1 := h.ext.keeps _ _ d1
  have hpl2 := lt_of_cell e0
  have ca := fun W s' hw hs => ia W s' hw hs
  have cb := fun W s' hw hs => ib W s' hw hs
  have cj := fun W s' hw => jb W s' hw
  rw [show ((k + 1 : Nat) : Int) = (k : Int) + 1 from by omega] at ca
  rw [show ((k + 1 + ta.size : Nat) : Int) = (k : Int) + 1 + ta.size from by omega] at cb cj
  have IA := Lib.hid ca; have IB := Lib.hid cb; have JB := Lib.hid cj
  have HP := Lib.hid hp; have HOF := Lib.hid hof; have HS := Lib.hid h
  have hx1 := (Ext.refl wr).alloc (.cells #[.int .i64 5, .int .i64 sg] 63)
  generalize hM : onT (thereM ins) (wasM outs) V (.two ⟨5, sg⟩ ta tb) k s = M
  simp only [onT, if_true] at hM
  clear ca cb cj hp hof h ht ok hle hpl htop hy d0 d1 ia ib jb hso hsb hV
  generalize hnx : (k : Int) + (Tr.two ⟨5, sg⟩ ta tb).size = beh at *
  clear hnx
  cases hsa : someT V ta (k + 1)
  · rw [hsa] at hM hor
    have hsb : someT V tb (k + 1 + ta.size) = true := by simpa using hor
    simp only [Bool.false_eq_true, if_false] at hM
    have HM := Lib.hid hM; have HSA := Lib.hid hsa; have HSB := Lib.hid hsb; clear hM hsa hsb hor
    go_enter Try.func51, Try.ntmps51
    go_wp2_with fail
    refine (progOf_any _ n pc p k _ ((HP.out.keep HS.out.ext.keeps).keep hx1.keeps) (by omega) hkn).mono ?_; rintro e w' ⟨rfl, rfl⟩; rw [HOF.out]
    go_wp2_with fail
    refine (SA.out _ s (HS.out.more hx1)).mono ?_; rintro e w1 ⟨rfl, rfl⟩; rw [HSA.out]
    go_wp2_with fail
    refine (IB.out _ s (HS.out.more hx1) HSB.out).mono ?_; rintro e w1 ⟨rfl, hs1, o1⟩
    have HS1 := Lib.hid hs1; have O1 := Lib.hid o1; clear hs1 o1
    go_wp2
    go_ret
    exact ⟨by rw [← HM.out]; rfl, by rw [← HM.out]; exact HS1.out, (Off.of_ext hx1).trans O1.out⟩
  · rw [hsa] at hM
    simp only [if_true] at hM
    clear hor
    have HSA := Lib.hid hsa; clear hsa
    cases hr : (onT (thereM ins) (wasM outs) V ta (k + 1) s).1
    · rw [hr] at hM
      have HR := Lib.hid hr; have HM := Lib.hid hM; clear hr hM
      go_enter Try.func51, Try.ntmps51
      go_wp2_with fail
      refine (progOf_any _ n pc p k _ ((HP.out.keep HS.out.ext.keeps).keep hx1.keeps) (by omega) hkn).mono ?_; rintro e w' ⟨rfl, rfl⟩; rw [HOF.out]
      go_wp2_with fail
      refine (SA.out _ s (HS.out.more hx1)).mono ?_; rintro e w1 ⟨rfl, rfl⟩; rw [HSA.out]
      go_wp2_with fail
      refine (IA.out _ s (HS.out.more hx1) HSA.out).mono ?_; rintro e w1 ⟨rfl, hs1, o1⟩; rw [HR.out]
      have HS1 := Lib.hid hs1; have O1 := Lib.hid o1; clear hs1 o1
      go_wp2
      go_ret
      exact ⟨by rw [← HM.out]; rfl, by rw [← HM.out]; exact HS1.out, (Off.of_ext hx1).trans O1.out⟩
    · rw [hr] at hM
      have HR := Lib.hid hr; have HM := Lib.hid hM; clear hr hM
      go_enter Try.func51, Try.ntmps51
      go_wp2_with fail
      refine (progOf_any _ n pc p k _ ((HP.out.keep HS.out.ext.keeps).keep hx1.keeps) (by omega) hkn).mono ?_; rintro e w' ⟨rfl, rfl⟩; rw [HOF.out]
      go_wp2_with fail
      refine (SA.out _ s (HS.out.more hx1)).mono ?_; rintro e w1 ⟨rfl, rfl⟩; rw [HSA.out]
      go_wp2_with fail
      refine (IA.out _ s (HS.out.more hx1) HSA.out).mono ?_; rintro e w1 ⟨rfl, hs1, o1⟩; rw [HR.out]
      have HS1 := Lib.hid hs1; have O1 := Lib.hid o1; clear hs1 o1
      go_wp2_with fail
      refine (JB.out w1 _ HS1.out).mono ?_; rintro e w2 ⟨rfl, hs2, o2⟩
      have HS2 := Lib.hid hs2; have O2 := Lib.hid o2; clear hs2 o2
      go_wp2
      go_ret
      exact ⟨by rw [← HM.out]; rfl, by rw [← HM.out]; exact HS2.out, ((Off.of_ext hx1).trans O1.out).trans O2.out⟩

set_option maxRecDepth 100000 in
set_option maxHeartbeats 16000000 in
theorem won_par (hp : SlN w0 PA n p) (hV : Sl w0 WA n (V.map Bv)) (hwc : n ≤ wc) (hn : n ≤ 14) (kd sg : Int) (hk6 : 6 ≤ kd) (ta tb : Tr) (k : Nat) (ht : TreeAt p k (.two ⟨kd, sg⟩ ta tb)) (ok : (Tr.two ⟨kd, sg⟩ ta tb).ok)
    (ia : OnOK w0 b g1 g2 PA n pc fr WA wc OA oc ins outs V ta (k + 1)) (ib : OnOK w0 b g1 g2 PA n pc fr WA wc OA oc ins outs V tb (k + 1 + ta.size)) :
    OnOK w0 b g1 g2 PA n pc fr WA wc OA oc ins outs V (.two ⟨kd, sg⟩ ta tb) k := by
  intro wr s h hso
  have hle := ht.le
  have hpl := hp.1
  have hkn : k < n := by simp [Tr.size] at hle; omega
  have hof := ht.of_two ok
  have htop := ht.top
  have sa := fun W s' hw => wsome_any w0 b g1 g2 PA n pc fr WA wc OA oc ins W s' hw p V hp hV hwc hn (k + 1) ta ht.first ok.2.1
  have sb := fun W s' hw => wsome_any w0 b g1 g2 PA n pc fr WA wc OA oc ins W s' hw p V hp hV hwc hn (k + 1 + ta.size) tb ht.second ok.2.2
  rw [show ((k + 1 : Nat) : Int) = (k : Int) + 1 from by omega] at sa
  rw [show ((k + 1 + ta.size : Nat) : Int) = (k : Int) + 1 + ta.size from by omega] at sb
  have SA := Lib.hid sa; have SB := Lib.hid sb; clear sa sb
  obtain ⟨pb, poff, y, rfl, d0, d1, -, hy⟩ := hp.next hkn
  have hyx : y = ⟨kd, sg⟩ := by rw [htop] at hy; injection hy with hy; exact hy.symm
  subst hyx
  have c0 := h.c0
  have hbl := lt_of_cell c0
  have e0 := h.ext.keeps _ _ d0; have e1 := h.ext.keeps _ _ d1
  have hpl2 := lt_of_cell e0
  have ca := fun W s' hw hs => ia W s' hw hs
  have cb := fun W s' hw hs => ib W s' hw hs
  rw [show ((k + 1 : Nat) : Int) = (k : Int) + 1 from by omega] at ca
  rw [show ((k + 1 + ta.size : Nat) : Int) = (k : Int) + 1 + ta.size from by omega] at cb
  have IA := Lib.hid ca; have IB := Lib.hid cb
  have HP := Lib.hid hp; have HOF := Lib.hid hof; have HS := Lib.hid h
  have hx1 := (Ext.refl wr).alloc (.cells #[.int .i64 kd, .int .i64 sg] 63)
  have HX1 := Lib.hid hx1
  generalize hM : onT (thereM ins) (wasM outs) V (.two ⟨kd, sg⟩ ta tb) k s = M
  rw [onT_parts _ _ _ _ _ _ _ _ (by simp only; omega)] at hM
  have t1 : (kd == 1) = false := by simp; omega
  have t2 : (kd == 2) = false := by simp; omega
  have t4 : (kd == 4) = false := by simp; omega
  have t5 : (kd == 5) = false := by simp; omega
  generalize hA : partT (thereM ins) (wasM outs) V ta (k + 1) s = A at hM
  generalize hB : partT (thereM ins) (wasM outs) V tb (k + 1 + ta.size) A.2 = B at hM
  have HM := Lib.hid hM; have HA := Lib.hid hA; have HB := Lib.hid hB
  clear ca cb hp hof h ht ok hle hpl htop hy d0 d1 ia ib hso hV hM hA hB hx1
  generalize hnx : (k : Int) + (Tr.two ⟨kd, sg⟩ ta tb).size = beh at *
  clear hnx
  have i0 : ∀ W, (Instr.index 89 (.agg #[.int .i64 ((k : Int) + 1), .int .i64 ((k : Int) + 1 + ta.size)]) (.int .i64 0)).run Try.prog W = .ok (.int .i64 ((k : Int) + 1)) W := fun _ => by kernel_rfl
  have i1 : ∀ W, (Instr.index 89 (.agg #[.int .i64 ((k : Int) + 1), .int .i64 ((k : Int) + 1 + ta.size)]) (.int .i64 1)).run Try.prog W = .ok (.int .i64 ((k : Int) + 1 + ta.size)) W := fun _ => by kernel_rfl
  go_enter Try.func51, Try.ntmps51
  go_wp2_with fail
  refine (progOf_any _ n pc p k _ ((HP.out.keep HS.out.ext.keeps).keep HX1.out.keeps) (by omega) hkn).mono ?_; rintro e w' ⟨rfl, rfl⟩; rw [HOF.out]
  go_wp2
  go_loopw [9, 11, 69] (fun o _ j wr' => ∃ (ob : Bool) (st : StM), o = .bool ob ∧ WSt w0 b g1 g2 (some ⟨pb, poff, none⟩) n pc fr WA wc OA oc ins wr' st ∧ Off g1 g2 wr wr' ∧
      ((j = .int .i64 0 ∧ ob = true ∧ st = s) ∨ (j = .int .i64 1 ∧ ob = A.1 ∧ st = A.2) ∨ (j = .int .i64 2 ∧ ob = (A.1 && B.1) ∧ st = B.2))) (fun _ _ j _ => 2 - (intOf j).toNat)
  case atStart => exact ⟨true, s, rfl, HS.out.more HX1.out, Off.of_ext HX1.out, .inl ⟨rfl, rfl, rfl⟩⟩
  case round =>
    obtain ⟨ob, st, rfl, hw, ho, hj⟩ := hrel
    have HW := Lib.hid hw; have HO := Lib.hid ho; clear hw ho
    rcases hj with ⟨rfl, rfl, rfl⟩ | ⟨rfl, rfl, rfl⟩ | ⟨rfl, rfl, rfl⟩
    · cases hsa : someT V ta (k + 1)
      · have HSA := Lib.hid hsa
        have hA2 := HA.out
        rw [partT, hsa] at hA2
        have HA2 := Lib.hid hA2; clear hsa hA2
        go_wp2_with fail
        refine (SA.out _ st HW.out).mono ?_; rintro e w1 ⟨rfl, rfl⟩; rw [HSA.out]
        go_wp2
        go_roundw
        case rel => exact ⟨true, st, rfl, HW.out, HO.out, .inr (.inl ⟨rfl, by rw [← HA2.out]; rfl, by rw [← HA2.out]; rfl⟩)⟩
        case measure => simp [intOf]
      · have HSA := Lib.hid hsa
        have hA2 := HA.out
        rw [partT, hsa] at hA2
        have HA2 := Lib.hid hA2; clear hsa hA2
        cases hr : (onT (thereM ins) (wasM outs) V ta (k + 1) st).1
        all_goals
          have HR := Lib.hid hr; clear hr
          go_wp2_with fail
          refine (SA.out _ st HW.out).mono ?_; rintro e w1 ⟨rfl, rfl⟩; rw [HSA.out]
          go_wp2_with fail
          refine (IA.out _ st HW.out HSA.out).mono ?_; rintro e w1 ⟨rfl, hs1, o1⟩; rw [HR.out]
          have HS1 := Lib.hid hs1; have O1 := Lib.hid o1; clear hs1 o1
          go_wp2
          go_roundw
          case rel => exact ⟨_, _, rfl, HS1.out, HO.out.trans O1.out, .inr (.inl ⟨rfl, by rw [← HA2.out]; exact HR.out.symm, by rw [← HA2.out]; rfl⟩)⟩
          case measure => simp [intOf]
    · cases hsb : someT V tb (k + 1 + ta.size)
      · have HSB := Lib.hid hsb
        have hB2 := HB.out
        rw [partT, hsb] at hB2
        have HB2 := Lib.hid hB2; clear hsb hB2
        go_wp2_with fail
        refine (SB.out _ _ HW.out).mono ?_; rintro e w1 ⟨rfl, rfl⟩; rw [HSB.out]
        go_wp2
        go_roundw
        case rel => exact ⟨_, _, rfl, HW.out, HO.out, .inr (.inr ⟨rfl, by rw [← HB2.out]; simp, by rw [← HB2.out]; rfl⟩)⟩
        case measure => simp [intOf]
      · have HSB := Lib.hid hsb
        have hB2 := HB.out
        rw [partT, hsb] at hB2
        have HB2 := Lib.hid hB2; clear hsb hB2
        cases hr : (onT (thereM ins) (wasM outs) V tb (k + 1 + ta.size) A.2).1
        all_goals
          have HR := Lib.hid hr; clear hr
          go_wp2_with fail
          refine (SB.out _ _ HW.out).mono ?_; rintro e w1 ⟨rfl, rfl⟩; rw [HSB.out]
          go_wp2_with fail
          refine (IB.out _ _ HW.out HSB.out).mono ?_; rintro e w1 ⟨rfl, hs1, o1⟩; rw [HR.out]
          have HS1 := Lib.hid hs1; have O1 := Lib.hid o1; clear hs1 o1
          go_wp2
          go_roundw
          case rel => exact ⟨_, _, rfl, HS1.out, HO.out.trans O1.out, .inr (.inr ⟨rfl, by rw [← HB2.out]; simp [HR.out], by rw [← HB2.out]; rfl⟩)⟩
          case measure => simp [intOf]
    · go_wp2
      go_ret
      exact ⟨by rw [← HM.out]; rfl, by rw [← HM.out]; exact HW.out, HO.out⟩

theorem won_any (hp : SlN w0 PA n p) (hO : Sl w0 OA 3 (outs.map Bv)) (hV : Sl w0 WA n (V.map Bv)) (hwc : n ≤ wc) (hn : n ≤ 14) (h0 : 0 ≤ ins) (h8 : ins < 8) (hVk : waitsOK p V) : ∀ (t : Tr) (k : Nat), TreeAt p k t → t.ok → (∀ x ∈ t.flat, goodN x) → OnOK w0 b g1 g2 PA n pc fr WA wc OA oc ins outs V t k
  | .leaf x, k, ht, ok, hg => won_leaf w0 b g1 g2 PA n pc fr WA wc OA oc ins p outs V hp hn h0 h8 hVk x k ht ok (hg x (by simp [Tr.flat]))
  | .two ⟨kd, sg⟩ ta tb, k, ht, ok, hg => by
    have hgs := sub_good hg
    have hx := hg ⟨kd, sg⟩ (by simp [Tr.flat])
    have ia := won_any hp hO hV hwc hn h0 h8 hVk ta (k + 1) ht.first ok.2.1 hgs.1
    have ib := won_any hp hO hV hwc hn h0 h8 hVk tb (k + 1 + ta.size) ht.second ok.2.2 hgs.2
    have jb := wbegin_any w0 b g1 g2 PA n pc fr WA wc OA oc ins p outs hp hO hn h0 h8 tb (k + 1 + ta.size) ht.second ok.2.2 hgs.2
    by_cases e : kd = 5
    · subst e; exact won_seq w0 b g1 g2 PA n pc fr WA wc OA oc ins p outs V hp hV hwc hn sg ta tb k ht ok (fun h => some_two hVk ht ok h) ia ib jb
    · have h6 : 6 ≤ kd := by rcases good_two' ok.1 hx with q | q | q | q <;> simp only at q <;> omega
      exact won_par w0 b g1 g2 PA n pc fr WA wc OA oc ins p outs V hp hV hwc hn kd sg h6 ta tb k ht ok ia ib
end
end Go.Proofs.Ytejpnbomlnifkaa
