/- walker.walk: all places are walked. -/
import Derived.Test.YtlafiddfplhafaaFb23
import Derived.Test.YtlafiddfplhafaaFb21
import Derived.Test.YtlafiddfplhafaaFb03
import Derived.Test.YtlafiddfplhafaaFb05
import Derived.Test.YtlafiddfplhafaaFb04
import Derived.Maps.GroupsBeside
namespace Go.Proofs.Ytlafiddfplhafaa
set_option linter.unusedVariables false
set_option linter.unusedSimpArgs false
set_option linter.unusedVariables false
set_option linter.unusedSimpArgs false
open Go.RowKit
theorem upX_len (n : Nat) : (upX n).length = n := by induction n with | zero => rfl | succ n ih => simp [upX, ih]
theorem upX_at {n j : Nat} (h : j < n) : (upX n)[j]? = some (j : Int) := by
  induction n with
  | zero => omega
  | succ n ih =>
    by_cases e : j = n
    · subst e; simp only [upX]; rw [List.getElem?_append_right (by rw [upX_len]; exact Nat.le_refl _), upX_len]; simp
    · simp only [upX]; rw [List.getElem?_append_left (by rw [upX_len]; omega)]; exact ih (by omega)
theorem upX_drop {n j : Nat} (h : j < n) : (upX n).drop j = (j : Int) :: (upX n).drop (j + 1) := by
  have hl : j < (upX n).length := by rw [upX_len]; exact h
  rw [List.drop_eq_getElem_cons hl]
  have := upX_at h
  rw [List.getElem?_eq_getElem hl] at this
  injection this with this
  rw [this]
theorem stepX_none {N : NetM} {p : Place} {x : Int} {xs : List Int} {ps : List Place} (h : turnN N p.1 (bitsM x N.ins.toNat) = none) : stepX N p (x :: xs) ps = .bad (p.2 ++ [x]) := by simp only [stepX, h]
theorem stepX_some {N : NetM} {p : Place} {x : Int} {xs : List Int} {ps : List Place} {o : List Int × List Int} (h : turnN N p.1 (bitsM x N.ins.toNat) = some o) :
    stepX N p (x :: xs) ps = match addM ps (o.2, p.2 ++ [x]) with | none => .many | some qs => stepX N p xs qs := by
  simp only [stepX, h, addM]
  cases seenM ps o.2 with
  | true => rfl
  | false =>
    by_cases h64 : ps.length = 64
    · simp [h64]
    · simp [h64]
/-- Places as the walk has them. -/
structure PlacesV (N : NetM) (ps : List Place) : Prop where
  ok : PlacesOK N ps
  wl : ∀ p ∈ ps, p.2.length ≤ ps.length
theorem PlacesV.start (N : NetM) : PlacesV N [(firstM N, [])] := ⟨reach_start N, fun p hp => by simp at hp; subst hp; simp⟩
theorem PlacesV.vals {N : NetM} {ps : List Place} (h : PlacesV N ps) {p : Place} (hp : p ∈ ps) : (∀ x ∈ p.1, x = 0 ∨ x = 1) ∧ p.1.length = N.regs.length := by
  obtain ⟨rows, hr⟩ := (h.ok.ways p hp).1
  have := runFrom_good (first_good N) (by simp [firstM]) hr
  exact ⟨this.1, this.2.1⟩
theorem PlacesV.add {N : NetM} {ps : List Place} (h : PlacesV N ps) {p : Place} (hp : p ∈ ps) {x : Int} (hx : 0 ≤ x ∧ x < (2 ^ N.ins.toNat : Nat)) {o : List Int × List Int} (ht : turnN N p.1 (bitsM x N.ins.toNat) = some o)
    {qs : List Place} (hq : addM ps (o.2, p.2 ++ [x]) = some qs) : PlacesV N qs ∧ ps.length ≤ qs.length ∧ (∀ (k : Nat) (y : Place), ps[k]? = some y → qs[k]? = some y) := by
  unfold addM at hq
  cases hs : seenM ps o.2 with
  | true =>
    simp only [hs, if_true, Option.some.injEq] at hq
    subst hq
    exact ⟨h, Nat.le_refl _, fun _ _ e => e⟩
  | false =>
    simp only [hs, Bool.false_eq_true, if_false] at hq
    by_cases h64 : ps.length = 64
    · rw [if_pos h64] at hq; cases hq
    · rw [if_neg h64] at hq
      injection hq with hq
      subst hq
      refine ⟨⟨h.ok.add hp hx ht hs h64, fun q hq => ?_⟩, by simp, fun k y hk => by rw [List.getElem?_append_left (List.getElem?_eq_some_iff.1 hk).1]; exact hk⟩
      rcases List.mem_append.1 hq with e | e
      · have := h.wl q e; simp; omega
      · simp at e; subst e
        have := h.wl p hp
        simp; omega
theorem placeCs_at : ∀ (vs : List (Value × Value)) (k : Nat) (v : Value × Value), vs[k]? = some v → (placeCs vs)[k * 2]? = some v.1 ∧ (placeCs vs)[k * 2 + 1]? = some v.2
  | [], k, v, h => by simp at h
  | u :: vs, 0, v, h => by simp at h; subst h; exact ⟨rfl, rfl⟩
  | u :: vs, k + 1, v, h => by
    obtain ⟨h0, h1⟩ := placeCs_at vs k v (by simpa using h)
    have e : (k + 1) * 2 = k * 2 + 2 := by omega
    have ec : placeCs (u :: vs) = u.1 :: u.2 :: placeCs vs := rfl
    rw [e, ec, show k * 2 + 2 + 1 = (k * 2 + 1) + 2 from by omega]
    exact ⟨by simpa using h0, by simpa using h1⟩
theorem Beside.own {w w' : World} {b mb : Nat} {s s' : Value} (h : Beside w w' b mb s s') {base : Nat} {e : TypeId} {size n : Nat} {v : Value} {xs : List Value} (ho : w.ownsRow base e size v n xs) (h1 : v.ownBlock ≠ some b) (h2 : v.ownBlock ≠ some mb) (h3 : v.ownBlock = none ∨ v.ownBlock ≠ s.ownBlock) : w'.ownsRow base e size v n xs := by
  rcases ho with ⟨hl, ⟨rfl, rfl⟩ | ⟨g, cap, cur, rfl, hg, hh, r⟩⟩
  · exact ⟨hl, .inl ⟨rfl, rfl⟩⟩
  · refine ⟨hl, .inr ⟨g, cap, cur, rfl, hg, ?_, r⟩⟩
    have e1 : (Value.slice (some ⟨g, 0, none⟩) n cap).ownBlock = some g := rfl
    rw [e1] at h1 h2 h3
    have hlt := (Array.getElem?_eq_some_iff.1 hh).1
    exact (h g hlt (fun e => h1 (by rw [e])) (fun e => h2 (by rw [e])) (h3.resolve_left (by simp))).1.trans hh
section
variable {w w' : World} {base b : Nat} {i : Int} {G R O : Value} {mb : Nat} {s s' : Value} {ps : List Place} {vs : List (Value × Value)}
theorem WalkerW.ints (h : WalkerW w base b i G R O mb s ps vs) (hb : Beside w w' b mb s s') {n : Nat} {v : Value} {xs : List Value} {base' : Nat} (ho : w.ownsRow base' 3 1 v n xs) : w'.ownsRow base' 3 1 v n xs := by
  obtain ⟨f, hm, -⟩ := h.map
  exact hb.own ho (h.box.apart ho (by decide)) (fun e => hm.ne_row ho e.symm) (own_types ho h.rows.row (by decide))
theorem WalkerW.pbox (h : WalkerW w base b i G R O mb s ps vs) (hb : Beside w w' b mb s s') {g : Nat} {cs : List Value} (ho : Box w g 142 cs) (hs : some g ≠ s.ownBlock) : Box w' g 142 cs ∧ some g ≠ s'.ownBlock := by
  obtain ⟨f, hm, -⟩ := h.map
  exact hb.box ho (ho.ne h.box (by decide)) (hm.ne_box ho) hs
end
/-- What walk tells. -/
structure WalkedTo (w w' : World) (base b mb : Nat) (i : Int) (G R O : Value) (q : ReachR) (e : Ending) : Prop where
  below : Below base w w'
  told : match q with
    | .bad way => ∃ v, e = .returned (Pr v (I 6)) ∧ w'.ownsRow base 3 1 v way.length (way.map I)
    | .many => e = .returned (Pr (.slice none 0 0) (I 2))
    | .ok ps => e = .returned (Pr (.slice none 0 0) (I 0)) ∧ ∃ s vs, WalkerW w' base b i G R O mb s ps vs
set_option maxRecDepth 100000 in
set_option maxHeartbeats 16000000 in
theorem walk_any (i : Int) (GA : Option Addr) (gn gc : Nat) (RA : Option Addr) (rn rc : Nat) (OA : Option Addr) (on oc : Nat) (N : NetM) (base b mb : Nat) (w0 w : World) (h : NetC w0 i GA gn gc RA rn rc OA on oc N) (hc : checkN N = 0)
    (hx : Ext w0 w) (hbase : w0.heap.size ≤ base) (hw : WalkerW w base b i (.slice GA gn gc) (.slice RA rn rc) (.slice OA on oc) mb (.slice none 0 0) [] []) :
    Calls Try.prog 51 #[.pointer (some ⟨b, 0, none⟩)] w fun e w' => WalkedTo w w' base b mb i (.slice GA gn gc) (.slice RA rn rc) (.slice OA on oc) (reachM N) e := by
  have ok := checkN_ok hc
  have hins := h.ins; have hrl : N.regs.length = rn := h.regs.1; have hol : N.outs.length = on := h.outs.len
  obtain ⟨m, rfl⟩ : ∃ m : Nat, i = m := ⟨i.toNat, by have := ok.ins0; omega⟩
  have hm : N.ins.toNat = m := by omega
  have hm3 : m ≤ 3 := by have := ok.ins3; omega
  have hr20 : rn ≤ 20 := by have := ok.rl; omega
  have h8 : 2 ^ m ≤ 8 := by
    have : m = 0 ∨ m = 1 ∨ m = 2 ∨ m = 3 := by omega
    rcases this with rfl | rfl | rfl | rfl <;> decide
  have hnet : ∀ Q, Below base w Q → NetC Q m GA gn gc RA rn rc OA on oc N := fun Q hQ => h.keep (Ext.keeps (Below.trans hx (Below.mono hQ hbase)))
  have hlts := hw.lts
  obtain ⟨K, hK⟩ : ∃ K, K = 2 ^ m := ⟨_, rfl⟩
  rw [← hK] at h8
  have HNET := Lib.hid hnet; have HC := Lib.hid hc; have HINS := Lib.hid hins; have HRL := Lib.hid hrl; have HOL := Lib.hid hol; have HM := Lib.hid hm; have HW := Lib.hid hw; have HLT := Lib.hid hlts; have HOK := Lib.hid ok; have HK := Lib.hid hK
  have m0 := hw.box.cell
  have q0 := (m0 0).trans rfl; have q1 := (m0 1).trans rfl; have q2 := (m0 2).trans rfl; have q3 := (m0 3).trans rfl
  simp only [List.getElem?_cons_zero, List.getElem?_cons_succ] at q0 q1 q2 q3
  clear h hc hins hrl hol hm hw hx hbase hnet m0 ok hlts hK
  go_enter Try.func51, Try.ntmps51
  go_wp2_with fail
  refine (first_any m GA gn gc RA rn rc OA on oc N w (HNET.out w (Below.refl _ _)) hr20).mono ?_; rintro e w1 ⟨v1, rfl, hown1, x1⟩
  obtain ⟨A1, c1, rfl, -, -, hs1⟩ := own_sl hown1
  have hO1 := own_base hown1 HLT.out.1
  have HO1 := Lib.hid hO1; have X1 := Lib.hid x1
  have HFL : Hid ((firstM N).length = rn) := hs1.len
  clear hown1 hO1 x1 hs1 q0 q1 q2 q3
  go_wp2_with fail
  refine (reach_any base b m (.slice GA gn gc) (.slice RA rn rc) (.slice OA on oc) mb (.slice none 0 0) [] [] A1 rn c1 (.slice none 0 0) (firstM N) [] w1 (HW.out.ext X1.out) HO1.out (World.ownsRow_nil _ _ _ _) (by omega) (first_good N) (by simp)).mono ?_
  rintro e w2 ⟨hbel, s2, vs2, hbes, hwent⟩
  obtain ⟨rfl, hw2⟩ := hwent
  have HW2 := Lib.hid hw2; have HB2 := Lib.hid ((Below.mono X1.out HLT.out.1).trans hbel)
  clear hbel hbes hw2
  go_wp2_with fail
  go_loopw [4] (fun j wr => ∃ (k : Nat) (s : Value) (ps : List Place) (vs : List (Value × Value)), k ≤ ps.length ∧ j = .int .i64 k ∧ Below base w wr ∧ WalkerW wr base b m (.slice GA gn gc) (.slice RA rn rc) (.slice OA on oc) mb s ps vs ∧ PlacesV N ps ∧ walkX N (65 - k) k ps = reachM N) (fun j _ => 65 - (intOf j).toNat)
  case atStart => exact ⟨0, s2, _, vs2, Nat.zero_le _, rfl, HB2.out, HW2.out, PlacesV.start N, rfl⟩
  case round =>
    obtain ⟨k, s, ps, vs, hk, rfl, hbel, hwk, hpv, hwx⟩ := hrel
    have h64 := hpv.ok.few
    obtain ⟨pn, hpn⟩ : ∃ pn, pn = ps.length := ⟨_, rfl⟩
    obtain ⟨pA, pc, rfl, hpc1, hpc2, -⟩ := own_slice hwk.rows.row
    rw [← hpn] at hk h64 hwk hpc1
    have m5 := (hwk.box.cell 5).trans rfl
    simp only [List.getElem?_cons_zero, List.getElem?_cons_succ] at m5
    by_cases hlt : k < pn
    · obtain ⟨p, hp⟩ : ∃ p, ps[k]? = some p := ⟨_, List.getElem?_eq_getElem (by omega)⟩
      obtain ⟨v, hv⟩ : ∃ v, vs[k]? = some v := ⟨_, List.getElem?_eq_getElem (by have := hwk.rows.vl; omega)⟩
      obtain ⟨v1, v2⟩ := v
      obtain ⟨o1, o2⟩ := hwk.rows.own k _ _ hv hp
      have hrow := hwk.rows.row
      rw [← hpn] at hrow
      obtain ⟨pb, pcc, ep⟩ := own_form hrow (by omega)
      have eA : pA = some ⟨pb, 0, none⟩ := by injection ep
      clear ep
      subst eA
      obtain ⟨e1, e2⟩ := placeCs_at vs k _ hv
      have c1' := hrow.cellAt (k * 2) (by omega)
      have c2' := hrow.cellAt (k * 2 + 1) (by omega)
      rw [e1] at c1'
      rw [e2] at c2'
      have hval := hpv.vals (List.mem_of_getElem? hp)
      have hwl := hpv.wl p (List.mem_of_getElem? hp)
      rw [← hpn] at hwl
      have hwxs : walkX N (65 - k) k ps = match stepX N p (upX (2 ^ N.ins.toNat)) ps with | .ok qs => walkX N (65 - (k + 1)) (k + 1) qs | .bad w => .bad w | .many => .many := by
        rw [show 65 - k = (65 - (k + 1)) + 1 from by omega]
        simp only [walkX, hp]
        cases stepX N p (upX (2 ^ N.ins.toNat)) ps <;> rfl
      rw [hwx, HM.out, ← HK.out] at hwxs
      obtain ⟨pr, hpr⟩ : ∃ pr, pr = p.1.length := ⟨_, rfl⟩
      obtain ⟨pw, hpw⟩ : ∃ pw, pw = p.2.length := ⟨_, rfl⟩
      have hprn : pr = rn := by rw [hpr, hval.2]; exact HRL.out
      rw [← hpr, hprn] at o1
      rw [← hpw] at o2 hwl
      have h01 := hval.1
      obtain ⟨XA, xc, rfl, -, -, -⟩ := own_sl o1
      obtain ⟨WA, wc, rfl, -, -, -⟩ := own_sl o2
      obtain ⟨w3, hw3⟩ : ∃ q, q = wr := ⟨_, rfl⟩
      subst hw3
      have HP := Lib.hid hp; have HBEL := Lib.hid hbel; have HWK := Lib.hid hwk; have HPV := Lib.hid hpv; have HWX := Lib.hid hwxs; have O1 := Lib.hid o1; have O2 := Lib.hid o2; have HPN := Lib.hid hpn; have H01 := Lib.hid h01; have HPR := Lib.hid (hpr.symm.trans hprn); have HPW := Lib.hid hpw
      clear hp hv hbel hwk hpv hwxs hwx o1 o2 hpn h01 hval e1 e2 hrow hpr hpw hprn
      go_upto_region 6 with fail
      clear m5 c1' c2'
      obtain ⟨w4, hw4⟩ : ∃ w4, w4 = w3.alloc (.cells #[.slice XA rn xc, .slice WA pw wc] 142) := ⟨_, rfl⟩
      have hx4 : Ext w3 w4 := by rw [hw4]; exact (Ext.refl _).alloc _
      have hb4 : Box w4 w3.heap.size 142 [.slice XA rn xc, .slice WA pw wc] := by rw [hw4]; exact Box.new w3 _ _
      have hwk4 := HWK.out.ext hx4
      have HW4 := Lib.hid hw4; have X4 := Lib.hid hx4; have HB4 := Lib.hid hb4; have HWK4 := Lib.hid hwk4
      have q0 := (hwk4.box.cell 0).trans rfl
      simp only [List.getElem?_cons_zero, List.getElem?_cons_succ] at q0
      rw [← HW4.out]
      clear hw4 hx4 hb4 hwk4
      have hshl : wrap64 ((2 : Int) ^ m) = (K : Int) := by
        rw [HK.out]
        have : m = 0 ∨ m = 1 ∨ m = 2 ∨ m = 3 := by omega
        rcases this with rfl | rfl | rfl | rfl <;> (unfold wrap64; decide)
      have HSHL := Lib.hid hshl
      clear hshl
      go_wp2_with fail
      rw [HSHL.out]
      clear q0
      obtain ⟨b5, hb5⟩ : ∃ b5, b5 = w3.heap.size := ⟨_, rfl⟩
      rw [← hb5]
      rw [← hb5] at HB4
      have hs4 : some b5 ≠ (Value.slice (some ⟨pb, 0, none⟩) pn pc).ownBlock := by
        intro e
        have := (HWK.out.rows.row.lt b5 e.symm).2
        omega
      have HS4 := Lib.hid hs4
      have BEL4 := Lib.hid (HBEL.out.trans (Below.mono X4.out (Nat.le_trans HLT.out.1 HBEL.out.size)))
      have P1 := Lib.hid (own_ext O1.out X4.out); have P2 := Lib.hid (own_ext O2.out X4.out)
      clear hb5 hs4
      go_loopw [41] (fun j wr => ∃ (q : Nat) (s : Value) (qs : List Place) (us : List (Value × Value)), q ≤ K ∧ j = .int .i64 q ∧ Below base w wr ∧ WalkerW wr base b m (.slice GA gn gc) (.slice RA rn rc) (.slice OA on oc) mb s qs us ∧ PlacesV N qs ∧ pn ≤ qs.length ∧ qs[k]? = some p ∧ stepX N p ((upX K).drop q) qs = stepX N p (upX K) ps ∧
        Box wr b5 142 [.slice XA rn xc, .slice WA pw wc] ∧ some b5 ≠ s.ownBlock ∧ wr.ownsRow base 3 1 (.slice XA rn xc) rn (p.1.map I) ∧ wr.ownsRow base 3 1 (.slice WA pw wc) pw (p.2.map I)) (fun j _ => K - (intOf j).toNat)
      case atStart => exact ⟨0, _, ps, vs, Nat.zero_le _, rfl, BEL4.out, HWK4.out, HPV.out, by rw [HPN.out]; exact Nat.le_refl _, HP.out, rfl, HB4.out, HS4.out, P1.out, P2.out⟩
      case round =>
        obtain ⟨q, s, qs, us, hq, rfl, hbel, hwk, hpv, hlen, hqp, hst, hbx, hsn, ho1, ho2⟩ := hrel
        obtain ⟨w5, hw5⟩ : ∃ q, q = wr := ⟨_, rfl⟩
        subst hw5
        by_cases hlq : q < K
        · obtain ⟨XA', xc', e9, -, -, hs9⟩ := own_sl ho1
          injection e9 with e9 _ e9'; subst e9; subst e9'
          obtain ⟨WA', wc', e9, -, -, hsw⟩ := own_sl ho2
          injection e9 with e9 _ e9'; subst e9; subst e9'
          have hdr := upX_drop hlq
          rw [hdr] at hst
          have hm0 := hwk.box.cell
          have r0 := hm0 0; have r1 := hm0 1; have r2 := hm0 2; have r3 := hm0 3
          have hc0 := hbx.cell 0; have hc1 := hbx.cell 1
          simp only [List.getElem?_cons_zero, List.getElem?_cons_succ] at r0 r1 r2 r3 hc0 hc1
          have hv := hpv.vals (List.mem_of_getElem? hqp)
          have ak : AskedOK N p.1 (bitsM q m) := ⟨HOK.out, hv.2, by rw [bits_len]; exact HINS.out, (good01 hv.1).1, (good01 (bits_good _ _)).1⟩
          have hq8 : q < 8 := by omega
          have h64q := hpv.ok.few
          have HBELQ := Lib.hid hbel; have HWKQ := Lib.hid hwk; have HPVQ := Lib.hid hpv; have HQP := Lib.hid hqp; have HST := Lib.hid hst; have HBXQ := Lib.hid hbx; have HSN := Lib.hid hsn; have Q1 := Lib.hid ho1; have Q2 := Lib.hid ho2; have HAK := Lib.hid ak
          have HS9 := Lib.hid hs9; have HSW := Lib.hid hsw; have HV := Lib.hid hv
          have hbt : ∀ Q, Calls Try.prog 45 #[I q, I m] Q fun e w' => ∃ v, e = .returned v ∧ w'.ownsRow Q.heap.size 3 1 v m ((bitsM q m).map I) ∧ Ext Q w' := fun Q => bits_any q m Q (by omega) (by omega) hm3
          have BT := Lib.hid hbt
          have R0 := Lib.hid r0; have R1 := Lib.hid r1; have R2 := Lib.hid r2; have R3 := Lib.hid r3; have C0 := Lib.hid hc0
          clear hbel hwk hpv hqp hst hbx hsn ho1 ho2 ak hs9 hsw hv hbt r0 r1 r2 r3 hc0 hm0 hdr
          go_wp2_with fail
          refine (cloneInts_any WA pw wc p.2 w5 HSW.out (by omega)).mono ?_; rintro e w6 ⟨v6, rfl, hown6, x6⟩
          have HO6 := Lib.hid hown6; have X6 := Lib.hid x6
          clear hown6 x6 hc1
          go_wp2_with (at_builtin; refine wpList_push rfl (.tmp 46) (.tmp 48) 23 3 rfl tab_int' Try.underlying23 rfl (by omega) w5 w6 X6.out _ pw _ rfl HO6.out [I q] rfl rfl rfl (by simp [Value.oneCell']) (by unfold maxLen; omega) (by omega) ?_; intro v7 w7 hown7 x7 _)
          have hway : p.2.map I ++ [I q] = (p.2 ++ [(q : Int)]).map I := by simp
          rw [hway] at hown7
          obtain ⟨YA, yc, rfl, -, -, -⟩ := own_slice hown7
          have HO7 := Lib.hid (own_base hown7 (Nat.le_trans HLT.out.1 HBELQ.out.size)); have X7 := Lib.hid x7
          have B0 := Lib.hid (x7.keeps _ _ R0.out); have B1 := Lib.hid (x7.keeps _ _ R1.out); have B2 := Lib.hid (x7.keeps _ _ R2.out); have B3 := Lib.hid (x7.keeps _ _ R3.out); have D0 := Lib.hid (x7.keeps _ _ C0.out)
          have BELW := Lib.hid (HBELQ.out.trans (Below.mono x7 (Nat.le_trans HLT.out.1 HBELQ.out.size)))
          have NN := Lib.hid (HNET.out _ BELW.out)
          have S9 := Lib.hid (HS9.out.keep x7.keeps)
          clear hown7 x7 hway
          cases htn : turnN N p.1 (bitsM q m) with
          | none =>
            have hbad := stepX_none (xs := (upX K).drop (q + 1)) (ps := qs) (x := (q : Int)) (by rw [HM.out]; exact htn)
            have HR : Hid (reachM N = .bad (p.2 ++ [(q : Int)])) := by
              have := HWX.out
              rw [← HST.out, hbad] at this
              exact this
            have tn : ∀ Q (Ab : Option Addr) (cb : Nat), Ext w7 Q → Sl Q Ab m ((bitsM q m).map I) → Calls Try.prog 44 #[netV m GA gn gc RA rn rc OA on oc, .slice XA rn xc, .slice Ab m cb] Q fun e w' => ∃ vo vn, e = .returned (Pr3 vo vn (Bv false)) ∧ Ext Q w' := fun Q Ab cb hQ hsb => by
              refine (turn_net_any m GA gn gc RA rn rc OA on oc N XA rn xc Ab m cb p.1 (bitsM q m) Q (NN.out.keep hQ.keeps) (S9.out.keep hQ.keeps) hsb HAK.out).mono fun e w' ⟨vo, vn, he, ho⟩ => ⟨vo, vn, ?_, ho.2.2⟩
              rw [he, htn]; rfl
            have TN := Lib.hid tn
            clear tn hbad htn
            go_wp2_with fail
            refine wp_flow3 21 0 [isV (.pointer (some ⟨b, 0, none⟩)), isV (.pointer (some ⟨b, 0, none⟩)), isV (.pointer (some ⟨b, 0, none⟩)), isV (.agg #[.int .i64 m, .slice GA gn gc, .slice RA rn rc, .slice OA on oc]), isV (.pointer (some ⟨b5, 0, none⟩)), isV (.slice XA rn xc), isV (.int .i64 q), isV (.pointer (some ⟨b, 0, none⟩)), isV (.pointer (some ⟨b, 0, none⟩)), isV (.pointer (some ⟨b, 0, none⟩)), isV (.pointer (some ⟨b, 0, none⟩)), isV (.int .i64 m), fun v w => ∃ A c, v = .slice A m c ∧ w.ownsRow w7.heap.size 3 1 (.slice A m c) m ((bitsM q m).map I), fun v _ => ∃ A B : Value, v = .tuple #[A, B, .bool false], fun v _ => ∃ A B : Value, v = .tuple #[A, B, .bool false], fun _ _ => True, fun _ _ => True, isV (.bool false), fun _ _ => True, fun _ _ => True, isV (.bool false)] (by kernel_rfl) rfl rfl (by kernel_rfl) (by kernel_rfl) ⟨isV_mono, isV_mono, isV_mono, isV_mono, isV_mono, isV_mono, isV_mono, isV_mono, isV_mono, isV_mono, isV_mono, isV_mono, fun v w w' ⟨A, c, e, h⟩ hx => ⟨A, c, e, own_ext h hx⟩, fun v w w' h hx => h, fun v w w' h hx => h, fun v w w' h hx => trivial, fun v w w' h hx => trivial, isV_mono, fun v w w' h hx => trivial, fun v w w' h hx => trivial, isV_mono, trivial⟩ ?each ?rest
            case each =>
              refine .cons ?_ (.cons ?_ (.cons ?_ (.cons ?_ (.cons ?_ (.cons ?_ (.cons ?_ (.cons ?_ (.cons ?_ (.cons ?_ (.cons ?_ (.cons ?_ (.cons ?_ (.cons ?_ (.cons ?_ (.cons ?_ (.cons ?_ (.cons ?_ (.cons ?_ (.cons ?_ (.cons ?_ (.nil)))))))))))))))))))))
              · intro fa fw hx hs hb
                have s0 : fa.tmps[(0 : Nat)]? = some (.pointer (some ⟨b, 0, none⟩)) := (hb 0 (by kernel_rfl)).trans (by rfl)
                refine .inl ⟨wanted_free rfl, fun K hK => ?_⟩
                clear hs hb hx
                go_simp
                exact hK _ _ rfl (Ext.refl _)
              · intro fa fw hx hs hb
                obtain ⟨_, s51, rfl⟩ := hs 0 51 (by kernel_rfl) (by kernel_rfl)
                refine .inl ⟨wanted_free rfl, fun K hK => ?_⟩
                clear hs hb hx
                go_simp
                exact hK _ _ rfl (Ext.refl _)
              · intro fa fw hx hs hb
                obtain ⟨_, s52, rfl⟩ := hs 1 52 (by kernel_rfl) (by kernel_rfl)
                refine .inl ⟨wanted_free rfl, fun K hK => ?_⟩
                clear hs hb hx
                go_simp
                exact hK _ _ rfl (Ext.refl _)
              · intro fa fw hx hs hb
                obtain ⟨_, s53, rfl⟩ := hs 2 53 (by kernel_rfl) (by kernel_rfl)
                have c0 := hx.keeps _ _ B0.out
                have c1 := hx.keeps _ _ B1.out
                have c2 := hx.keeps _ _ B2.out
                have c3 := hx.keeps _ _ B3.out
                refine .inl ⟨wanted_free rfl, fun K hK => ?_⟩
                clear hs hb hx
                go_simp
                exact hK _ _ rfl (Ext.refl _)
              · intro fa fw hx hs hb
                have s5 : fa.tmps[(5 : Nat)]? = some (.pointer (some ⟨b5, 0, none⟩)) := (hb 5 (by kernel_rfl)).trans (by rfl)
                refine .inl ⟨wanted_free rfl, fun K hK => ?_⟩
                clear hs hb hx
                go_simp
                exact hK _ _ rfl (Ext.refl _)
              · intro fa fw hx hs hb
                obtain ⟨_, s55, rfl⟩ := hs 4 55 (by kernel_rfl) (by kernel_rfl)
                have c0 := hx.keeps _ _ D0.out
                refine .inl ⟨wanted_free rfl, fun K hK => ?_⟩
                clear hs hb hx
                go_simp
                exact hK _ _ rfl (Ext.refl _)
              · intro fa fw hx hs hb
                have s6 : fa.tmps[(6 : Nat)]? = some (.int .i64 q) := (hb 6 (by kernel_rfl)).trans (by rfl)
                refine .inl ⟨wanted_free rfl, fun K hK => ?_⟩
                clear hs hb hx
                go_simp
                exact hK _ _ rfl (Ext.refl _)
              · intro fa fw hx hs hb
                have s0 : fa.tmps[(0 : Nat)]? = some (.pointer (some ⟨b, 0, none⟩)) := (hb 0 (by kernel_rfl)).trans (by rfl)
                refine .inl ⟨wanted_free rfl, fun K hK => ?_⟩
                clear hs hb hx
                go_simp
                exact hK _ _ rfl (Ext.refl _)
              · intro fa fw hx hs hb
                obtain ⟨_, s58, rfl⟩ := hs 7 58 (by kernel_rfl) (by kernel_rfl)
                refine .inl ⟨wanted_free rfl, fun K hK => ?_⟩
                clear hs hb hx
                go_simp
                exact hK _ _ rfl (Ext.refl _)
              · intro fa fw hx hs hb
                obtain ⟨_, s59, rfl⟩ := hs 8 59 (by kernel_rfl) (by kernel_rfl)
                refine .inl ⟨wanted_free rfl, fun K hK => ?_⟩
                clear hs hb hx
                go_simp
                exact hK _ _ rfl (Ext.refl _)
              · intro fa fw hx hs hb
                obtain ⟨_, s60, rfl⟩ := hs 9 60 (by kernel_rfl) (by kernel_rfl)
                refine .inl ⟨wanted_free rfl, fun K hK => ?_⟩
                clear hs hb hx
                go_simp
                exact hK _ _ rfl (Ext.refl _)
              · intro fa fw hx hs hb
                obtain ⟨_, s61, rfl⟩ := hs 10 61 (by kernel_rfl) (by kernel_rfl)
                have c0 := hx.keeps _ _ B0.out
                refine .inl ⟨wanted_free rfl, fun K hK => ?_⟩
                clear hs hb hx
                go_simp
                exact hK _ _ rfl (Ext.refl _)
              · intro fa fw hx hs hb
                obtain ⟨_, s57, rfl⟩ := hs 6 57 (by kernel_rfl) (by kernel_rfl)
                obtain ⟨_, s62, rfl⟩ := hs 11 62 (by kernel_rfl) (by kernel_rfl)
                refine .inl ⟨wanted_free rfl, fun K hK => ?_⟩
                clear hs hb
                go_simp
                refine (BT.out fw).mono ?_
                rintro e w' ⟨r0, rfl, ho, xq⟩
                obtain ⟨Aq, cq, rfl, -, -, -⟩ := own_sl ho
                exact hK _ _ ⟨Aq, cq, rfl, own_base ho hx.size⟩ xq
              · intro fa fw hx hs hb
                obtain ⟨_, s54, rfl⟩ := hs 3 54 (by kernel_rfl) (by kernel_rfl)
                obtain ⟨_, s56, rfl⟩ := hs 5 56 (by kernel_rfl) (by kernel_rfl)
                obtain ⟨_, s63, A63, c63, rfl, q63⟩ := hs 12 63 (by kernel_rfl) (by kernel_rfl)
                refine .inl ⟨wanted_free rfl, fun K hK => ?_⟩
                clear hs hb
                obtain ⟨Ar, cr, er, -, hcm, hsr⟩ := own_sl q63
                injection er with er _ ec
                subst er; subst ec
                go_simp
                refine (TN.out fw A63 c63 hx hsr).mono ?_
                rintro e w' ⟨vo, vn, rfl, xq⟩
                exact hK _ _ ⟨vo, vn, rfl⟩ xq
              · intro fa fw hx hs hb
                obtain ⟨_, s64, A64, B64, rfl⟩ := hs 13 64 (by kernel_rfl) (by kernel_rfl)
                refine .inl ⟨wanted_free rfl, fun K hK => ?_⟩
                clear hs hb
                go_simp
                exact hK _ _ ⟨A64, B64, rfl⟩ (Ext.refl _)
              · intro fa fw hx hs hb
                obtain ⟨_, s50, A50, B50, rfl⟩ := hs 14 50 (by kernel_rfl) (by kernel_rfl)
                refine .inl ⟨wanted_free rfl, fun K hK => ?_⟩
                clear hs hb
                go_simp
                exact hK _ _ trivial (Ext.refl _)
              · intro fa fw hx hs hb
                obtain ⟨_, s50, A50, B50, rfl⟩ := hs 14 50 (by kernel_rfl) (by kernel_rfl)
                refine .inl ⟨wanted_free rfl, fun K hK => ?_⟩
                clear hs hb
                go_simp
                exact hK _ _ trivial (Ext.refl _)
              · intro fa fw hx hs hb
                obtain ⟨_, s50, A50, B50, rfl⟩ := hs 14 50 (by kernel_rfl) (by kernel_rfl)
                refine .inl ⟨wanted_free rfl, fun K hK => ?_⟩
                clear hs hb
                go_simp
                exact hK _ _ rfl (Ext.refl _)
              · intro fa fw hx hs hb
                obtain ⟨v65, s65, _⟩ := hs 15 65 (by kernel_rfl) (by kernel_rfl)
                refine .inl ⟨wanted_free rfl, fun K hK => ?_⟩
                clear hs hb
                go_simp
                exact hK _ _ trivial (Ext.refl _)
              · intro fa fw hx hs hb
                obtain ⟨v66, s66, _⟩ := hs 16 66 (by kernel_rfl) (by kernel_rfl)
                refine .inl ⟨wanted_free rfl, fun K hK => ?_⟩
                clear hs hb
                go_simp
                exact hK _ _ trivial (Ext.refl _)
              · intro fa fw hx hs hb
                obtain ⟨_, s67, rfl⟩ := hs 17 67 (by kernel_rfl) (by kernel_rfl)
                refine .inl ⟨wanted_free rfl, fun K hK => ?_⟩
                clear hs hb hx
                go_simp
                exact hK _ _ rfl (Ext.refl _)
            case rest =>
              intro w2 hxw2
              rintro _ rfl
              rintro _ rfl
              rintro _ rfl
              rintro _ rfl
              rintro _ rfl
              rintro _ rfl
              rintro _ rfl
              rintro _ rfl
              rintro _ rfl
              rintro _ rfl
              rintro _ rfl
              rintro _ rfl
              rintro _ ⟨A63, c63, rfl, q63⟩
              rintro _ ⟨A64, B64, rfl⟩
              rintro _ ⟨A50, B50, rfl⟩
              rintro _ ⟨⟨v65, s65, _⟩⟩
              rintro _ ⟨⟨v66, s66, _⟩⟩
              rintro _ rfl
              rintro _ ⟨⟨v8, s8, _⟩⟩
              rintro _ ⟨⟨v9, s9, _⟩⟩
              rintro _ rfl
              simp only [putAll, List.take, Act.put, List.setIfInBounds_toArray, List.set_cons_zero, List.set_cons_succ]
              refine wpAny_done (by kernel_rfl) ?_ _
              have hway2 : w2.ownsRow base 3 1 (.slice YA (pw + 1) yc) (p.2 ++ [(q : Int)]).length ((p.2 ++ [(q : Int)]).map I) := by
                rw [show (p.2 ++ [(q : Int)]).length = pw + 1 from by rw [List.length_append, ← HPW.out]; rfl]
                exact own_ext HO7.out hxw2
              have hb2 := BELW.out.trans (Below.mono hxw2 (Nat.le_trans HLT.out.1 BELW.out.size))
              have HWAY := Lib.hid hway2; have HB2 := Lib.hid hb2
              clear hway2 hb2
              go_wp2
              exact bodyPost_ret (v := Pr (.slice YA (pw + 1) yc) (I 6)) (by simp [results, Try.results51, go_sem]) rfl ⟨HB2.out, by rw [HR.out]; exact ⟨_, rfl, HWAY.out⟩⟩
          | some o =>
            have hsome := stepX_some (xs := (upX K).drop (q + 1)) (ps := qs) (x := (q : Int)) (by rw [HM.out]; exact htn)
            have hol2 := turnN_len htn
            rw [HOL.out, HRL.out] at hol2
            have ho01 := (turnN_good HAK.out.rg HAK.out.ig htn).2
            have tn : ∀ Q (Ab : Option Addr) (cb : Nat), Ext w7 Q → Sl Q Ab m ((bitsM q m).map I) → Calls Try.prog 44 #[netV m GA gn gc RA rn rc OA on oc, .slice XA rn xc, .slice Ab m cb] Q fun e w' => ∃ vo vn, e = .returned (Pr3 vo vn (Bv true)) ∧ w'.ownsRow Q.heap.size 3 1 vo on (o.1.map I) ∧ w'.ownsRow Q.heap.size 3 1 vn rn (o.2.map I) ∧ Ext Q w' := fun Q Ab cb hQ hsb => by
              have htq : turnQ N p.1 (bitsM q m) = o := by unfold turnQ; rw [htn]; rfl
              refine (turn_net_any m GA gn gc RA rn rc OA on oc N XA rn xc Ab m cb p.1 (bitsM q m) Q (NN.out.keep hQ.keeps) (S9.out.keep hQ.keeps) hsb HAK.out).mono fun e w' ⟨vo, vn, he, ho⟩ => ⟨vo, vn, ?_, ?_, ?_, ho.2.2⟩
              · rw [he, htn]; rfl
              · have := ho.1; rw [htq, hol2.1] at this; exact this
              · have := ho.2.1; rw [htq, hol2.2] at this; exact this
            have hadv : ∀ rs, addM qs (o.2, p.2 ++ [(q : Int)]) = some rs → PlacesV N rs ∧ qs.length ≤ rs.length ∧ (∀ (k : Nat) (y : Place), qs[k]? = some y → rs[k]? = some y) := fun rs hrs => HPVQ.out.add (List.mem_of_getElem? HQP.out) (by rw [HM.out, ← HK.out]; omega) (by rw [HM.out]; exact htn) hrs
            have TN := Lib.hid tn; have HSOME := Lib.hid hsome; have HO01 := Lib.hid ho01; have HADV := Lib.hid hadv
            clear tn hsome htn hol2 ho01 hadv
            go_wp2_with fail
            refine wp_flow3 21 0 [isV (.pointer (some ⟨b, 0, none⟩)), isV (.pointer (some ⟨b, 0, none⟩)), isV (.pointer (some ⟨b, 0, none⟩)), isV (.agg #[.int .i64 m, .slice GA gn gc, .slice RA rn rc, .slice OA on oc]), isV (.pointer (some ⟨b5, 0, none⟩)), isV (.slice XA rn xc), isV (.int .i64 q), isV (.pointer (some ⟨b, 0, none⟩)), isV (.pointer (some ⟨b, 0, none⟩)), isV (.pointer (some ⟨b, 0, none⟩)), isV (.pointer (some ⟨b, 0, none⟩)), isV (.int .i64 m), fun v w => ∃ A c, v = .slice A m c ∧ w.ownsRow w7.heap.size 3 1 (.slice A m c) m ((bitsM q m).map I), fun v w => ∃ A c B d, v = .tuple #[.slice A on c, .slice B rn d, .bool true] ∧ w.ownsRow w7.heap.size 3 1 (.slice A on c) on (o.1.map I) ∧ w.ownsRow w7.heap.size 3 1 (.slice B rn d) rn (o.2.map I), fun v w => ∃ A c B d, v = .tuple #[.slice A on c, .slice B rn d, .bool true] ∧ w.ownsRow w7.heap.size 3 1 (.slice A on c) on (o.1.map I) ∧ w.ownsRow w7.heap.size 3 1 (.slice B rn d) rn (o.2.map I), fun v w => ∃ A c, v = .slice A on c ∧ w.ownsRow w7.heap.size 3 1 (.slice A on c) on (o.1.map I), fun v w => ∃ A c, v = .slice A rn c ∧ w.ownsRow w7.heap.size 3 1 (.slice A rn c) rn (o.2.map I), isV (.bool true), fun v w => ∃ A c, v = .slice A on c ∧ w.ownsRow w7.heap.size 3 1 (.slice A on c) on (o.1.map I), fun v w => ∃ A c, v = .slice A rn c ∧ w.ownsRow w7.heap.size 3 1 (.slice A rn c) rn (o.2.map I), isV (.bool true)] (by kernel_rfl) rfl rfl (by kernel_rfl) (by kernel_rfl) ⟨isV_mono, isV_mono, isV_mono, isV_mono, isV_mono, isV_mono, isV_mono, isV_mono, isV_mono, isV_mono, isV_mono, isV_mono, fun v w w' ⟨A, c, e, h⟩ hx => ⟨A, c, e, own_ext h hx⟩, fun v w w' ⟨A, c, B, d, e, h, k⟩ hx => ⟨A, c, B, d, e, own_ext h hx, own_ext k hx⟩, fun v w w' ⟨A, c, B, d, e, h, k⟩ hx => ⟨A, c, B, d, e, own_ext h hx, own_ext k hx⟩, fun v w w' ⟨A, c, e, h⟩ hx => ⟨A, c, e, own_ext h hx⟩, fun v w w' ⟨A, c, e, h⟩ hx => ⟨A, c, e, own_ext h hx⟩, isV_mono, fun v w w' ⟨A, c, e, h⟩ hx => ⟨A, c, e, own_ext h hx⟩, fun v w w' ⟨A, c, e, h⟩ hx => ⟨A, c, e, own_ext h hx⟩, isV_mono, trivial⟩ ?each ?rest
            case each =>
              refine .cons ?_ (.cons ?_ (.cons ?_ (.cons ?_ (.cons ?_ (.cons ?_ (.cons ?_ (.cons ?_ (.cons ?_ (.cons ?_ (.cons ?_ (.cons ?_ (.cons ?_ (.cons ?_ (.cons ?_ (.cons ?_ (.cons ?_ (.cons ?_ (.cons ?_ (.cons ?_ (.cons ?_ (.nil)))))))))))))))))))))
              · intro fa fw hx hs hb
                have s0 : fa.tmps[(0 : Nat)]? = some (.pointer (some ⟨b, 0, none⟩)) := (hb 0 (by kernel_rfl)).trans (by rfl)
                refine .inl ⟨wanted_free rfl, fun K hK => ?_⟩
                clear hs hb hx
                go_simp
                exact hK _ _ rfl (Ext.refl _)
              · intro fa fw hx hs hb
                obtain ⟨_, s51, rfl⟩ := hs 0 51 (by kernel_rfl) (by kernel_rfl)
                refine .inl ⟨wanted_free rfl, fun K hK => ?_⟩
                clear hs hb hx
                go_simp
                exact hK _ _ rfl (Ext.refl _)
              · intro fa fw hx hs hb
                obtain ⟨_, s52, rfl⟩ := hs 1 52 (by kernel_rfl) (by kernel_rfl)
                refine .inl ⟨wanted_free rfl, fun K hK => ?_⟩
                clear hs hb hx
                go_simp
                exact hK _ _ rfl (Ext.refl _)
              · intro fa fw hx hs hb
                obtain ⟨_, s53, rfl⟩ := hs 2 53 (by kernel_rfl) (by kernel_rfl)
                have c0 := hx.keeps _ _ B0.out
                have c1 := hx.keeps _ _ B1.out
                have c2 := hx.keeps _ _ B2.out
                have c3 := hx.keeps _ _ B3.out
                refine .inl ⟨wanted_free rfl, fun K hK => ?_⟩
                clear hs hb hx
                go_simp
                exact hK _ _ rfl (Ext.refl _)
              · intro fa fw hx hs hb
                have s5 : fa.tmps[(5 : Nat)]? = some (.pointer (some ⟨b5, 0, none⟩)) := (hb 5 (by kernel_rfl)).trans (by rfl)
                refine .inl ⟨wanted_free rfl, fun K hK => ?_⟩
                clear hs hb hx
                go_simp
                exact hK _ _ rfl (Ext.refl _)
              · intro fa fw hx hs hb
                obtain ⟨_, s55, rfl⟩ := hs 4 55 (by kernel_rfl) (by kernel_rfl)
                have c0 := hx.keeps _ _ D0.out
                refine .inl ⟨wanted_free rfl, fun K hK => ?_⟩
                clear hs hb hx
                go_simp
                exact hK _ _ rfl (Ext.refl _)
              · intro fa fw hx hs hb
                have s6 : fa.tmps[(6 : Nat)]? = some (.int .i64 q) := (hb 6 (by kernel_rfl)).trans (by rfl)
                refine .inl ⟨wanted_free rfl, fun K hK => ?_⟩
                clear hs hb hx
                go_simp
                exact hK _ _ rfl (Ext.refl _)
              · intro fa fw hx hs hb
                have s0 : fa.tmps[(0 : Nat)]? = some (.pointer (some ⟨b, 0, none⟩)) := (hb 0 (by kernel_rfl)).trans (by rfl)
                refine .inl ⟨wanted_free rfl, fun K hK => ?_⟩
                clear hs hb hx
                go_simp
                exact hK _ _ rfl (Ext.refl _)
              · intro fa fw hx hs hb
                obtain ⟨_, s58, rfl⟩ := hs 7 58 (by kernel_rfl) (by kernel_rfl)
                refine .inl ⟨wanted_free rfl, fun K hK => ?_⟩
                clear hs hb hx
                go_simp
                exact hK _ _ rfl (Ext.refl _)
              · intro fa fw hx hs hb
                obtain ⟨_, s59, rfl⟩ := hs 8 59 (by kernel_rfl) (by kernel_rfl)
                refine .inl ⟨wanted_free rfl, fun K hK => ?_⟩
                clear hs hb hx
                go_simp
                exact hK _ _ rfl (Ext.refl _)
              · intro fa fw hx hs hb
                obtain ⟨_, s60, rfl⟩ := hs 9 60 (by kernel_rfl) (by kernel_rfl)
                refine .inl ⟨wanted_free rfl, fun K hK => ?_⟩
                clear hs hb hx
                go_simp
                exact hK _ _ rfl (Ext.refl _)
              · intro fa fw hx hs hb
                obtain ⟨_, s61, rfl⟩ := hs 10 61 (by kernel_rfl) (by kernel_rfl)
                have c0 := hx.keeps _ _ B0.out
                refine .inl ⟨wanted_free rfl, fun K hK => ?_⟩
                clear hs hb hx
                go_simp
                exact hK _ _ rfl (Ext.refl _)
              · intro fa fw hx hs hb
                obtain ⟨_, s57, rfl⟩ := hs 6 57 (by kernel_rfl) (by kernel_rfl)
                obtain ⟨_, s62, rfl⟩ := hs 11 62 (by kernel_rfl) (by kernel_rfl)
                refine .inl ⟨wanted_free rfl, fun K hK => ?_⟩
                clear hs hb
                go_simp
                refine (BT.out fw).mono ?_
                rintro e w' ⟨r0, rfl, ho, xq⟩
                obtain ⟨Aq, cq, rfl, -, -, -⟩ := own_sl ho
                exact hK _ _ ⟨Aq, cq, rfl, own_base ho hx.size⟩ xq
              · intro fa fw hx hs hb
                obtain ⟨_, s54, rfl⟩ := hs 3 54 (by kernel_rfl) (by kernel_rfl)
                obtain ⟨_, s56, rfl⟩ := hs 5 56 (by kernel_rfl) (by kernel_rfl)
                obtain ⟨_, s63, A63, c63, rfl, q63⟩ := hs 12 63 (by kernel_rfl) (by kernel_rfl)
                refine .inl ⟨wanted_free rfl, fun K hK => ?_⟩
                clear hs hb
                obtain ⟨Ar, cr, er, -, hcm, hsr⟩ := own_sl q63
                injection er with er _ ec
                subst er; subst ec
                go_simp
                refine (TN.out fw A63 c63 hx hsr).mono ?_
                rintro e w' ⟨vo, vn, rfl, h1, h2, xq⟩
                obtain ⟨Aq, cq, rfl, -, -, -⟩ := own_sl h1
                obtain ⟨Bq, dq, rfl, -, -, -⟩ := own_sl h2
                exact hK _ _ ⟨Aq, cq, Bq, dq, rfl, own_base h1 hx.size, own_base h2 hx.size⟩ xq
              · intro fa fw hx hs hb
                obtain ⟨_, s64, A64, c64, B64, d64, rfl, q64, p64⟩ := hs 13 64 (by kernel_rfl) (by kernel_rfl)
                refine .inl ⟨wanted_free rfl, fun K hK => ?_⟩
                clear hs hb
                go_simp
                exact hK _ _ ⟨A64, c64, B64, d64, rfl, q64, p64⟩ (Ext.refl _)
              · intro fa fw hx hs hb
                obtain ⟨_, s50, A50, c50, B50, d50, rfl, q50, p50⟩ := hs 14 50 (by kernel_rfl) (by kernel_rfl)
                refine .inl ⟨wanted_free rfl, fun K hK => ?_⟩
                clear hs hb
                go_simp
                exact hK _ _ ⟨A50, c50, rfl, q50⟩ (Ext.refl _)
              · intro fa fw hx hs hb
                obtain ⟨_, s50, A50, c50, B50, d50, rfl, q50, p50⟩ := hs 14 50 (by kernel_rfl) (by kernel_rfl)
                refine .inl ⟨wanted_free rfl, fun K hK => ?_⟩
                clear hs hb
                go_simp
                exact hK _ _ ⟨B50, d50, rfl, p50⟩ (Ext.refl _)
              · intro fa fw hx hs hb
                obtain ⟨_, s50, A50, c50, B50, d50, rfl, q50, p50⟩ := hs 14 50 (by kernel_rfl) (by kernel_rfl)
                refine .inl ⟨wanted_free rfl, fun K hK => ?_⟩
                clear hs hb
                go_simp
                exact hK _ _ rfl (Ext.refl _)
              · intro fa fw hx hs hb
                obtain ⟨_, s65, A65, c65, rfl, q65⟩ := hs 15 65 (by kernel_rfl) (by kernel_rfl)
                refine .inl ⟨wanted_free rfl, fun K hK => ?_⟩
                clear hs hb
                go_simp
                exact hK _ _ ⟨A65, c65, rfl, q65⟩ (Ext.refl _)
              · intro fa fw hx hs hb
                obtain ⟨_, s66, A66, c66, rfl, q66⟩ := hs 16 66 (by kernel_rfl) (by kernel_rfl)
                refine .inl ⟨wanted_free rfl, fun K hK => ?_⟩
                clear hs hb
                go_simp
                exact hK _ _ ⟨A66, c66, rfl, q66⟩ (Ext.refl _)
              · intro fa fw hx hs hb
                obtain ⟨_, s67, rfl⟩ := hs 17 67 (by kernel_rfl) (by kernel_rfl)
                refine .inl ⟨wanted_free rfl, fun K hK => ?_⟩
                clear hs hb hx
                go_simp
                exact hK _ _ rfl (Ext.refl _)
            case rest =>
              intro w2 hxw2
              rintro _ rfl
              rintro _ rfl
              rintro _ rfl
              rintro _ rfl
              rintro _ rfl
              rintro _ rfl
              rintro _ rfl
              rintro _ rfl
              rintro _ rfl
              rintro _ rfl
              rintro _ rfl
              rintro _ rfl
              rintro _ ⟨A63, c63, rfl, q63⟩
              rintro _ ⟨A64, c64, B64, d64, rfl, q64, p64⟩
              rintro _ ⟨A50, c50, B50, d50, rfl, q50, p50⟩
              rintro _ ⟨A65, c65, rfl, q65⟩
              rintro _ ⟨A66, c66, rfl, q66⟩
              rintro _ rfl
              rintro _ ⟨A8, c8, rfl, q8⟩
              rintro _ ⟨A9, c9, rfl, q9⟩
              rintro _ rfl
              simp only [putAll, List.take, Act.put, List.setIfInBounds_toArray, List.set_cons_zero, List.set_cons_succ]
              refine wpAny_done (by kernel_rfl) ?_ _
              have hway2 : w2.ownsRow base 3 1 (.slice YA (pw + 1) yc) (p.2 ++ [(q : Int)]).length ((p.2 ++ [(q : Int)]).map I) := by
                rw [show (p.2 ++ [(q : Int)]).length = pw + 1 from by rw [List.length_append, ← HPW.out]; rfl]
                exact own_ext HO7.out hxw2
              have hb2 := BELW.out.trans (Below.mono hxw2 (Nat.le_trans HLT.out.1 BELW.out.size))
              have HWAY := Lib.hid hway2; have HB2 := Lib.hid hb2; have HNX := Lib.hid (own_base q9 (Nat.le_trans HLT.out.1 BELW.out.size))
              have X57 := Lib.hid (X7.out.trans hxw2)
              clear hway2 hb2
              go_wp2_with fail
              refine (reach_any base b m (.slice GA gn gc) (.slice RA rn rc) (.slice OA on oc) mb s qs us A9 rn c9 (.slice YA (pw + 1) yc) o.2 (p.2 ++ [(q : Int)]) w2 (HWKQ.out.ext X57.out) HNX.out HWAY.out (by omega) HO01.out h64q).mono ?_
              rintro e w8 ⟨hbel8, s8, us8, hbes8, hwent⟩
              have hb8 := HB2.out.trans hbel8
              have HB8 := Lib.hid hb8
              have hs2 := HST.out
              rw [HSOME.out] at hs2
              cases hadd : addM qs (o.2, p.2 ++ [(q : Int)]) with
              | none =>
                rw [hadd] at hwent hs2
                obtain rfl : e = .returned (.bool false) := hwent
                have HR : Hid (reachM N = .many) := by
                  have := HWX.out
                  rw [← hs2] at this
                  exact this
                clear hs2 hadd hbel8 hbes8 hb8
                go_wp2
                exact bodyPost_ret (v := Pr (.slice none 0 0) (I 2)) (by simp [results, Try.results51, go_sem]) rfl ⟨HB8.out, by rw [HR.out]⟩
              | some rs =>
                rw [hadd] at hwent hs2
                obtain ⟨rfl, hw8⟩ := hwent
                obtain ⟨a1, a2, a3⟩ := HADV.out rs hadd
                have hwkx := HWKQ.out.ext X57.out
                obtain ⟨b1', b2'⟩ := hwkx.pbox hbes8 (HBXQ.out.ext X57.out) HSN.out
                have e1 := hwkx.ints hbes8 (own_ext Q1.out X57.out); have e2 := hwkx.ints hbes8 (own_ext Q2.out X57.out)
                have HW8 := Lib.hid hw8; have A1' := Lib.hid a1; have A2' := Lib.hid a2; have A3' := Lib.hid (a3 _ _ HQP.out); have HS8 := Lib.hid hs2; have HBX8 := Lib.hid b1'; have HSN8 := Lib.hid b2'; have E1 := Lib.hid e1; have E2 := Lib.hid e2
                clear hw8 a1 a2 a3 hs2 hadd hbel8 hbes8 hb8 hwkx b1' b2' e1 e2
                go_wp2
                go_roundw
                case rel => exact ⟨q + 1, s8, rs, us8, by omega, by go_num, HB8.out, HW8.out, A1'.out, Nat.le_trans hlen A2'.out, A3'.out, HS8.out, HBX8.out, HSN8.out, E1.out, E2.out⟩
                case measure => simp [intOf]; omega
        · obtain rfl : q = K := by omega
          have hdr : (upX q).drop q = [] := List.drop_eq_nil_of_le (by rw [upX_len]; exact Nat.le_refl _)
          rw [hdr] at hst
          have HNX : Hid (walkX N (65 - (k + 1)) (k + 1) qs = reachM N) := by
            have := HWX.out
            rw [← hst] at this
            exact this.symm
          have HB := Lib.hid hbel; have HWKN := Lib.hid hwk; have HPVN := Lib.hid hpv
          clear hdr hst hbel hwk hpv hqp hbx hsn ho1 ho2
          go_wp2
          go_roundw
          case rel => exact ⟨k + 1, s, qs, us, by omega, by go_num, HB.out, HWKN.out, HPVN.out, HNX.out⟩
          case measure => simp [intOf]; omega
    · obtain rfl : k = pn := by omega
      have HR : Hid (reachM N = .ok ps) := by
        have : ps[k]? = none := by rw [List.getElem?_eq_none_iff]; omega
        rw [show 65 - k = (64 - k) + 1 from by omega] at hwx
        simp only [walkX, this] at hwx
        exact hwx.symm
      have HB := Lib.hid hbel; have HWKN := Lib.hid hwk
      clear hwx hpv hbel hwk hpn
      go_wp2
      exact bodyPost_ret (v := Pr (.slice none 0 0) (I 0)) (by simp [results, Try.results51, go_sem]) rfl ⟨HB.out, by rw [HR.out]; exact ⟨rfl, _, vs, HWKN.out⟩⟩
end Go.Proofs.Ytlafiddfplhafaa
/- States and Bad, by the program. -/
namespace Go.Proofs.Ytlafiddfplhafaa
set_option linter.unusedVariables false
set_option linter.unusedSimpArgs false
open Go.RowKit
def badW (N : NetM) : List Int := if checkN N ≠ 0 then [] else match reachM N with | .bad w => w | _ => []
def badIs (N : NetM) : Bool := if checkN N ≠ 0 then false else match reachM N with | .bad _ => true | _ => false
def badE (N : NetM) : Int := if checkN N ≠ 0 then checkN N else match reachM N with | .many => 2 | _ => 0
/-- What Bad tells. -/
def BadP (w w' : World) (e : Ending) (x : Int) (is : Bool) (way : List Int) : Prop := ∃ v, e = .returned (Pr3 v (Bv is) (I x)) ∧ w'.ownsRow w.heap.size 3 1 v way.length (way.map I) ∧ Ext w w'
theorem WalkerW.start (w : World) (i : Int) (G R O : Value) : WalkerW ((w.alloc (.map #[] 0)).alloc (.cells #[I i, G, R, O, .map (some w.heap.size), .slice none 0 0] 104)) w.heap.size (w.heap.size + 1) i G R O w.heap.size (.slice none 0 0) [] [] := by
  have hm := (MapK.made w).ext ((Ext.refl _).alloc (.cells #[I i, G, R, O, .map (some w.heap.size), .slice none 0 0] 104))
  refine ⟨?_, ⟨_, hm, SeenOf.start⟩, OwnP.nil _ _ _, by omega⟩
  have := Box.new (w.alloc (.map #[] 0)) [I i, G, R, O, .map (some w.heap.size), .slice none 0 0] 104
  simpa using this
section
variable (i : Int) (GA : Option Addr) (gn gc : Nat) (RA : Option Addr) (rn rc : Nat) (OA : Option Addr) (on oc : Nat) (N : NetM) (w : World)
set_option maxRecDepth 100000 in
set_option maxHeartbeats 8000000 in
theorem bad_any (h : NetC w i GA gn gc RA rn rc OA on oc N) :
    Calls Try.prog 19 #[netV i GA gn gc RA rn rc OA on oc] w fun e w' => BadP w w' e (badE N) (badIs N) (badW N) := by
  obtain ⟨W, hW⟩ : ∃ W, W = w.alloc (.cells #[I i, .slice GA gn gc, .slice RA rn rc, .slice OA on oc] 39) := ⟨_, rfl⟩
  have hxW : Ext w W := by rw [hW]; exact (Ext.refl _).alloc _
  have hbox : NetBox W w.heap.size i GA gn gc RA rn rc OA on oc := by rw [hW]; exact NetBox.new w i GA gn gc RA rn rc OA on oc _
  have HN := Lib.hid (h.keep hxW.keeps); have HBox := Lib.hid hbox; have HW := Lib.hid hW; have HX := Lib.hid hxW
  clear h hW hxW hbox
  have hmm := @run_makeMap Try.prog
  by_cases hc : checkN N = 0
  · have HC := Lib.hid hc
    clear hc
    have hE : Hid (badE N = match reachM N with | .many => 2 | _ => 0) := by unfold Hid badE; rw [if_neg (by simp [HC.out])]
    have hI : Hid (badIs N = match reachM N with | .bad _ => true | _ => false) := by unfold Hid badIs; rw [if_neg (by simp [HC.out])]
    have hV : Hid (badW N = match reachM N with | .bad w => w | _ => []) := by unfold Hid badW; rw [if_neg (by simp [HC.out])]
    go_enter Try.func19, Try.ntmps19
    go_wp2_with fail
    rw [← HW.out]
    refine (netCheck_any i GA gn gc RA rn rc OA on oc N W HN.out).mono ?_; rintro e w1 ⟨rfl, x1⟩; rw [HC.out]
    obtain ⟨q0, q1, q2, q3⟩ := HBox.out.keep x1.keeps
    have X1 := Lib.hid (HX.out.trans x1)
    have HN1 := Lib.hid (HN.out.keep x1.keeps)
    clear x1
    go_upto_region 5 with fail
    clear hmm q0 q1 q2 q3
    obtain ⟨w2, hw2⟩ : ∃ w2, w2 = (w1.alloc (.map #[] 0)).alloc (.cells #[I i, .slice GA gn gc, .slice RA rn rc, .slice OA on oc, .map (some w1.heap.size), .slice none 0 0] 104) := ⟨_, rfl⟩
    have hx2 : Ext w1 w2 := by rw [hw2]; exact ((Ext.refl _).alloc _).alloc _
    have hwk : WalkerW w2 w1.heap.size (w1.heap.size + 1) i (.slice GA gn gc) (.slice RA rn rc) (.slice OA on oc) w1.heap.size (.slice none 0 0) [] [] := by rw [hw2]; exact WalkerW.start w1 _ _ _ _
    have X2 := Lib.hid hx2; have HWK := Lib.hid hwk; have HW2 := Lib.hid hw2
    clear hx2 hwk hw2
    rw [← HW2.out]
    go_wp2_with fail
    refine (walk_any i GA gn gc RA rn rc OA on oc N w1.heap.size (w1.heap.size + 1) w1.heap.size w1 w2 HN1.out HC.out X2.out (Nat.le_refl _) HWK.out).mono ?_
    rintro e w3 ⟨hbel, htold⟩
    have X3 := Lib.hid (Below.trans X2.out hbel : Ext w1 w3)
    clear hbel
    cases hr : reachM N with
    | bad way =>
      rw [hr] at htold hE hV hI
      obtain ⟨v, rfl, hv⟩ := htold
      have HE1 : Hid (badE N = 0) := hE.out; have HV1 : Hid (badW N = way) := hV.out; have HI1 : Hid (badIs N = true) := hI.out
      have HOV := Lib.hid hv
      clear hv hr hE hV hI
      go_wp2
      exact bodyPost_ret (v := Pr3 v (.bool true) (I 0)) (by simp [results, Try.results19, go_sem]) rfl ⟨_, by rw [HE1.out, HI1.out], by rw [HV1.out]; exact own_base HOV.out X1.out.size, Ext.trans X1.out X3.out⟩
    | many =>
      rw [hr] at htold hE hV hI
      obtain rfl : e = _ := htold
      have HE1 : Hid (badE N = 2) := hE.out; have HV1 : Hid (badW N = []) := hV.out; have HI1 : Hid (badIs N = false) := hI.out
      clear hr hE hV hI
      go_wp2
      exact bodyPost_ret (v := Pr3 (.slice none 0 0) (.bool false) (I 2)) (by simp [results, Try.results19, go_sem]) rfl ⟨_, by rw [HE1.out, HI1.out], by rw [HV1.out]; exact World.ownsRow_nil _ _ _ _, Ext.trans X1.out X3.out⟩
    | ok ps =>
      rw [hr] at htold hE hV hI
      obtain ⟨rfl, s, vs, hwk⟩ := htold
      have HE1 : Hid (badE N = 0) := hE.out; have HV1 : Hid (badW N = []) := hV.out; have HI1 : Hid (badIs N = false) := hI.out
      clear hr hE hV hI hwk
      go_wp2
      exact bodyPost_ret (v := Pr3 (.slice none 0 0) (.bool false) (I 0)) (by simp [results, Try.results19, go_sem]) rfl ⟨_, by rw [HE1.out, HI1.out], by rw [HV1.out]; exact World.ownsRow_nil _ _ _ _, Ext.trans X1.out X3.out⟩
  · have HC := Lib.hid hc
    have hc' := hc
    have hE : Hid (badE N = checkN N) := by unfold Hid badE; rw [if_pos HC.out]
    have hI : Hid (badIs N = false) := by unfold Hid badIs; rw [if_pos HC.out]
    have hV : Hid (badW N = []) := by unfold Hid badW; rw [if_pos HC.out]
    obtain ⟨x, hx⟩ : ∃ x, x = checkN N := ⟨_, rfl⟩
    rw [← hx] at hE hc'
    have HXE := Lib.hid hx
    clear hx hc HC
    go_enter Try.func19, Try.ntmps19
    go_wp2_with fail
    rw [← HW.out]
    refine (netCheck_any i GA gn gc RA rn rc OA on oc N W HN.out).mono ?_; rintro e w1 ⟨rfl, x1⟩; rw [← HXE.out]
    have X1 := Lib.hid (HX.out.trans x1)
    clear x1
    go_wp2
    exact bodyPost_ret (v := Pr3 (.slice none 0 0) (.bool false) (I x)) (by simp [results, Try.results19, go_sem]) rfl ⟨_, by rw [hE.out, hI.out], by rw [hV.out]; exact World.ownsRow_nil _ _ _ _, X1.out⟩
end
end Go.Proofs.Ytlafiddfplhafaa
/- A map of slices of ints, keyed by ints, that the call itself makes: its rows as a function. -/
namespace Go.Proofs.Ytlafiddfplhafaa
set_option linter.unusedVariables false
set_option linter.unusedSimpArgs false
open Go.RowKit Go.Maps Go.WideElems Go.MapKept Go.ChangeShapes
abbrev GD := DataW Unit
/-- A datum reads as a list of ints: nil, and nothing; or the list. -/
def rdIs (d : GD) (z : List Int) : Prop := (d = .nil ∧ z = []) ∨ d = .slice (lits .i64 z) []
theorem lits_inj {a b : List Int} (h : (lits .i64 a : List GD) = lits .i64 b) : a = b := by
  unfold lits at h
  exact (List.map_inj_right (fun x y hxy => by injection hxy with hxy; injection hxy)).1 h
theorem rdIs_one {d : GD} {y z : List Int} (h : rdIs d y) (k : rdIs d z) : y = z := by
  rcases h with ⟨h, rfl⟩ | h <;> rcases k with ⟨k, rfl⟩ | k
  · rfl
  · rw [h] at k; cases k
  · rw [k] at h; cases h
  · rw [h] at k; injection k with k; exact lits_inj k
theorem rdIs_own {w : World} {base : Nat} {v : Value} {z : List Int} (h : w.ownsInts base 3 .i64 v z) : rdIs (rowDatum .i64 v z) z := by
  rcases h.datum (H := Unit) with ⟨h1, h2⟩ | h1
  · exact .inl ⟨h1, h2⟩
  · exact .inr h1
/-- Block b is a map of at most n entries; at k stands a slice of f k, of at most n; the rows lie from base on, each apart. -/
def Grp (w : World) (base b n : Nat) (f : Int → List Int) : Prop :=
  ∃ D : GD, w.ownsGroups Try.prog 3 base 3 .i64 b n D ∧ IsMap D ∧ ∀ k, 0 ≤ k → rdIs (D.atKey (.int .i64 k) .nil) (f k)
theorem grp_law : Keyed Try.prog 3 := int_keyed Try.underlying3
theorem grp_key (k : Int) : WideAt.IsKeyLit (.int .i64 k) := by trivial
theorem grp_zero (w : World) : (zeroValue 23).run Try.prog w = .ok (.slice none 0 0) w := by kernel_rfl
section
variable {w w' : World} {base b n : Nat} {f : Int → List Int}
theorem Grp.made (w : World) : Grp (w.alloc (.map #[] 0)) (w.heap.size + 1) w.heap.size 0 (fun _ => []) := ⟨.map [], World.ownsGroups_made _ _ _ _ _, isMap_empty, fun _ _ => .inl ⟨rfl, rfl⟩⟩
theorem Grp.congr (h : Grp w base b n f) {g : Int → List Int} (hg : ∀ j, 0 ≤ j → f j = g j) : Grp w base b n g := by
  obtain ⟨D, h1, h2, h3⟩ := h
  exact ⟨D, h1, h2, fun k hk => by rw [← hg k hk]; exact h3 k hk⟩
theorem Grp.more (h : Grp w base b n f) {m : Nat} (hm : n ≤ m) : Grp w base b m f := by
  obtain ⟨D, ⟨es, clock, hb, F, hs, hD, hbb, hlen, hap⟩, hi, hf⟩ := h
  exact ⟨D, ⟨es, clock, hb, F, by omega, hD, hbb, fun x hx zs ho => Nat.le_trans (hlen x hx zs ho) hm, hap⟩, hi, hf⟩
theorem Grp.lt (h : Grp w base b n f) : b < w.heap.size := by
  obtain ⟨D, ⟨es, clock, hb, _⟩, _⟩ := h; exact (Array.getElem?_eq_some_iff.1 hb).1
theorem Grp.below (h : Grp w base b n f) : b < base := by
  obtain ⟨D, ⟨es, clock, hb, F, hs, _, hbb, _⟩, _⟩ := h; exact hbb
/-- Where nothing from b on that was there is another thing, the map is the same. -/
theorem Grp.agree (h : Grp w base b n f) (ha : ∀ k, b ≤ k → k < w.heap.size → w'.heap[k]? = w.heap[k]?) : Grp w' base b n f := by
  obtain ⟨D, ⟨es, clock, hb, F, hs, hD, hbb, hlen, hap⟩, hi, hf⟩ := h
  have hblt : b < w.heap.size := (Array.getElem?_eq_some_iff.1 hb).1
  have keep : ∀ {v : Value} {zs : List Int}, w.ownsInts base 3 .i64 v zs → w'.ownsInts base 3 .i64 v zs := fun {v zs} ho => by
    refine ⟨?_, ho.2⟩
    rcases ho.1 with ⟨hl, h0 | ⟨g, cap, cur, hv, hg, hh, r⟩⟩
    · exact ⟨hl, .inl h0⟩
    · exact ⟨hl, .inr ⟨g, cap, cur, hv, hg, by rw [ha g (by omega) (Array.getElem?_eq_some_iff.1 hh).1]; exact hh, r⟩⟩
  have hst : ∀ x ∈ es.toList, ∀ z, rowElem (H := Unit) w base 3 .i64 x.val = some z → rowElem w' base 3 .i64 x.val = some z := fun x hx z hz => by
    obtain ⟨zs, ho, rfl⟩ := rowElem_inv hz
    exact rowElem_mk (keep ho)
  obtain ⟨F1, hmap, _⟩ := F.stay hst
  refine ⟨D, ⟨es, clock, (ha b (Nat.le_refl _) hblt).trans hb, F1, hs, by rw [hmap]; exact hD, hbb, fun x hx zs ho => ?_, hap⟩, hi, hf⟩
  obtain ⟨y, hy⟩ := F.reads x hx
  obtain ⟨z, hz, _⟩ := rd_val hy
  obtain ⟨zs0, ho0, _⟩ := rowElem_inv hz
  rw [ho.unique (keep ho0)]
  exact hlen x hx zs0 ho0
theorem Grp.ext (h : Grp w base b n f) (hx : Ext w w') : Grp w' base b n f := h.agree fun k _ hk => hx.block k hk
theorem Grp.set (h : Grp w base b n f) (g j : Nat) (v : Value) (hg : g < b) : Grp (w.setCell ⟨g, j, none⟩ v) base b n f :=
  h.agree fun k hk _ => heap_setCell_other w ⟨g, j, none⟩ k v (by simp; omega)
end
theorem wpList_lookupG {w : World} {ops : Array Oper} {rest : List Oper} {o : Oper} {a : Act} {Q : Exit → Act → World → Prop}
    (hg : o.guard = none) (m x : Operand) (hop : o.op = Op.lookup 139 m x false) (base b n : Nat) (f : Int → List Int) (hm : a.eval m = .map (some b)) (hown : Grp w base b n f) (hn : n < maxLen)
    (k : Int) (hx : a.eval x = I k) (h0 : 0 ≤ k) (hk : (Lit.int .i64 k).wf = true)
    (hK : ∀ v, w.ownsInts base 3 .i64 v (f k) → (f k).length ≤ n →
      (∀ (w1 w2 : World) (v' : Value) (x' : Int) (ops' : Array Oper) (rest' : List Oper) (o' : Oper) (a' : Act) (Q' : Exit → Act → World → Prop) (m' y' u' : Operand), o'.guard = none → o'.op = Op.mapUpdate 139 m' y' u' → a'.eval m' = .map (some b) → a'.eval y' = I k → a'.eval u' = v' →
        w.grownBy w1 v.ownBlock → w1.ownsInts base 3 .i64 v' (f k ++ [x']) → (v'.ownBlock = v.ownBlock ∨ ∃ g, v'.ownBlock = some g ∧ w.heap.size ≤ g) →
        (∀ w2, Grp w2 base b (n + 1) (fun j => if j = k then f k ++ [x'] else f j) → w1.grownBy w2 (some b) → wpList Try.prog ops' Q' rest' (a'.put o'.dst undef) w2) → wpList Try.prog ops' Q' (o' :: rest') a' w1) →
      wpList Try.prog ops Q rest (a.put o.dst v) w) : wpList Try.prog ops Q (o :: rest) a w := by
  obtain ⟨D, hD, hi, hf⟩ := hown
  refine wpList_lookup_groups w hg m x _ hop 3 23 3 .i64 grp_law Try.underlying139 (grp_zero w) base b n D hm hD hn (I k) (.int .i64 k) hx (keyOf_int_mk Try.underlying3 hk) fun v zs hat hoi hzl hback => ?_
  have hz : zs = f k := rdIs_one (by have := rdIs_own hoi; rw [← hat] at this; exact this) (hf k h0)
  subst hz
  refine hK v hoi hzl fun w1 _ v' x' ops' rest' o' a' Q' m' y' u' hg' hop' hm' hy' hu' hgr hown' hloc hK' => ?_
  refine wpList_mapUpdate_back w1 hg' m' y' u' _ hop' hback hm' hy' hu' hgr hown' (by simp; omega) hloc fun w2 hown2 hgr2 => ?_
  refine hK' w2 ⟨_, hown2, hi.put _ _, fun j hj => ?_⟩ hgr2
  by_cases e : j = k
  · subst e; rw [atKey_put_same hi (grp_key j)]; simp only [if_true]; exact rdIs_own hown'
  · rw [atKey_put_other (fun h => e (by injection h))]; simp only [e, if_false]; exact hf j hj
end Go.Proofs.Ytlafiddfplhafaa
