/- reach, StatesOf and BadOf, by the reference. -/
import Derived.Test.YtjagbnaacfhokaaRc18
import Derived.Test.YtjagbnaacfhokaaRc10
import Derived.Test.YtjagbnaacfhokaaRc08
namespace Go.Proofs.Ytjagbnaacfhokaa
set_option linter.unusedVariables false
set_option linter.unusedSimpArgs false
open Go.RowKit

/-- append of one element onto a row of the call's own; where the new row lies. -/
theorem wpList_pushL {P : Program} {ops : Array Oper} {rest : List Oper} {o : Oper} {a : Act} {Q : Exit → Act → World → Prop} {w : World} (hgd : o.guard = none) (s x : Operand) (t e : TypeId)
    (ho : o.op = .call { callee := .builtin .append, args := #[s, x], argTypes := #[t, t] })
    {z : Value} {size bytes : Nat} (tab : (P.info? e).map (fun i => (i.zero, i.size, i.bytes)) = some (some z, size, bytes)) (ht : P.underlying t = some (.slice e)) (hzs : z.cells.size = size) (hsz : 0 < size)
    (W0 w0 : World) (hext : Ext W0 w0) (v : Value) (n : Nat) (xs : List Value) (hs : a.eval s = v) (hown : w0.ownsRow W0.heap.size e size v n xs)
    (news : List Value) (hl : news.length = size) (hw : w = w0.alloc (.cells news.toArray e)) (B : Nat) (hx : a.eval x = .slice (some ⟨B, 0, none⟩) 1 1) (hB : B = w0.heap.size) (h1 : ∀ u ∈ news, u.oneCell' = true)
    (h63 : n + 1 ≤ maxLen) (hbytes : (n + 1) * bytes ≤ 140737488355328)
    (h : ∀ g cap w', w'.ownsRow W0.heap.size e size (.slice (some ⟨g, 0, none⟩) (n + 1) cap) (n + 1) (xs ++ news) → Ext W0 w' → w0.grownBy w' v.ownBlock → (v.ownBlock = some g ∨ w0.heap.size ≤ g) → wpList P ops Q rest (a.put o.dst (.slice (some ⟨g, 0, none⟩) (n + 1) cap)) w') : wpList P ops Q (o :: rest) a w := by
  subst hw; subst hB
  obtain ⟨i, hi, hz, hs1, hs2⟩ := info_parts tab
  refine wpList_append_lies _ hgd s x t ho W0.heap.size e i z size bytes ht hi hz hs1 hs2 hzs hsz v n xs hs (hown.alloc _) ⟨w0.heap.size, 0, none⟩ 1 1 news hx (by omega) (fun j u hu => ?_) h1 (by omega) h63 hbytes (Nat.le_trans hext.size (by simp)) _ rfl ?_
  · rw [add_zero, World.cell?_alloc_new]; simpa using hu
  · intro g cap w' hown' hg hat _
    refine h g cap w' hown' (Below.grown (hext.alloc _) hg (Nat.le_trans hext.size (by simp)) (fun k hk => (hown.lt k hk).1)) ?_ ?_
    · exact ⟨hg.os, hg.tape, hg.output, Nat.le_trans (by simp) hg.size, fun k hk hne => (hg.block k (by simp; omega) hne).trans (Below.heap_alloc w0 _ k hk)⟩
    · rcases hat with e | e
      · exact .inl e
      · right; rw [e]; simp
theorem own_one (w : World) (e : TypeId) (v : Value) (base b : Nat) (hb : b = w.heap.size) (h : base ≤ w.heap.size) : (w.alloc (.cells #[v] e)).ownsRow base e 1 (.slice (some ⟨b, 0, none⟩) 1 1) 1 [v] := by
  subst hb
  exact ⟨rfl, .inr ⟨w.heap.size, 1, #[v], rfl, h, heap_alloc_new w _, Nat.le_refl _, by unfold maxLen; omega, rfl, rfl⟩⟩
/-- A row of rows beside another row that grows. -/
theorem OwnRows.beside {E T : TypeId} {w w' : World} {base : Nat} {s : Value} {rows : List (List Int)} {vs : List Value} (h : OwnRows E T w base s rows vs) {row : Option Nat} (hg : w.grownBy w' row) (h1 : s.ownBlock = none ∨ s.ownBlock ≠ row)
    (h2 : ∀ (n : Nat) (v : Value) (xs : List Value), w.ownsRow base T 1 v n xs → v.ownBlock = none ∨ v.ownBlock ≠ row) : OwnRows E T w' base s rows vs :=
  ⟨h.row.kept hg h1, fun k v r hv hr => (h.own k v r hv hr).kept hg (h2 _ _ _ (h.own k v r hv hr))⟩
theorem asked0 {N : NetM} {r : List Int} (hc : checkN N = 0) (hl : r.length = N.regs.length) (h01 : ∀ x ∈ r, x = 0 ∨ x = 1) (x : Int) : askedM N r (bitsM x N.ins.toNat) = 0 := by
  have ok := checkN_ok hc
  unfold askedM
  rw [if_neg (by simp [hc]), if_neg (by rw [bits_len]; have := ok.ins0; omega), goodL_any (good01 h01).1, goodL_any (good01 (bits_good x _)).1]
  simp
theorem seen_next {ps : List Place} {k : Nat} {p : Place} (h : ps[k]? = some p) (r : List Int) : seenM (ps.take (k + 1)) r = (seenM (ps.take k) r || decide (p.1 = r)) := by
  unfold seenM; rw [List.take_add_one, h, List.any_append]; simp
/-- What the reference's reach tells. -/
structure RReachP (w w' : World) (q : ReachR) (e : Ending) : Prop where
  ext : Ext w w'
  told : match q with
    | .bad way => ∃ v, e = .returned (Pr3 (.slice none 0 0) v (I 6)) ∧ w'.ownsRow w.heap.size 3 1 v way.length (way.map I)
    | .many => e = .returned (Pr3 (.slice none 0 0) (.slice none 0 0) (I 2))
    | .ok ps => ∃ v vs, e = .returned (Pr3 v (.slice none 0 0) (I 0)) ∧ OwnRows 24 3 w' w.heap.size v (ps.map (·.1)) vs
/-- The two rows of rows, as the reference has them. -/
structure TwoR (w : World) (base : Nat) (va vb : Value) (ps : List Place) (us ws : List Value) : Prop where
  a : OwnRows 24 3 w base va (ps.map (·.1)) us
  b : OwnRows 24 3 w base vb (ps.map (·.2)) ws
  ne : ∀ g, va.ownBlock = some g → vb.ownBlock ≠ some g
theorem TwoR.ext {w w' : World} {base : Nat} {va vb : Value} {ps : List Place} {us ws : List Value} (h : TwoR w base va vb ps us ws) (hx : Ext w w') : TwoR w' base va vb ps us ws := ⟨h.a.ext hx, h.b.ext hx, h.ne⟩
section
variable (i : Int) (GA : Option Addr) (gn gc : Nat) (RA : Option Addr) (rn rc : Nat) (OA : Option Addr) (on oc : Nat) (N : NetM) (w : World)
set_option maxRecDepth 100000 in
set_option maxHeartbeats 16000000 in
theorem rreach_any (h : NetC w i GA gn gc RA rn rc OA on oc N) (hc : checkN N = 0) :
    Calls Try.prog 93 #[netV i GA gn gc RA rn rc OA on oc] w fun e w' => RReachP w w' (reachM N) e := by
  obtain ⟨W, hW⟩ : ∃ W, W = w.alloc (.cells #[I i, .slice GA gn gc, .slice RA rn rc, .slice OA on oc] 26) := ⟨_, rfl⟩
  have hxW : Ext w W := by rw [hW]; exact (Ext.refl _).alloc _
  have hbox : NetBox W w.heap.size i GA gn gc RA rn rc OA on oc := by rw [hW]; exact NetBox.new w i GA gn gc RA rn rc OA on oc _
  have ok := checkN_ok hc
  have hins := h.ins; have hrl : N.regs.length = rn := h.regs.1; have hol : N.outs.length = on := h.outs.len
  obtain ⟨m, rfl⟩ : ∃ m : Nat, i = m := ⟨i.toNat, by have := ok.ins0; omega⟩
  have hm : N.ins.toNat = m := by omega
  have hm3 : m ≤ 3 := by have := ok.ins3; omega
  have hr20 : rn ≤ 20 := by have := ok.rl; omega
  have h8 : 2 ^ m ≤ 8 := by
    have : m = 0 ∨ m = 1 ∨ m = 2 ∨ m = 3 := by omega
    rcases this with rfl | rfl | rfl | rfl <;> decide
  have hpw := fun Q => power_any Q m (by omega)
  obtain ⟨K, hK⟩ : ∃ K, K = 2 ^ m := ⟨_, rfl⟩
  rw [← hK] at h8 hpw
  have HN := Lib.hid (h.keep hxW.keeps); have HBox := Lib.hid hbox; have HW := Lib.hid hW; have HX := Lib.hid hxW
  have HC := Lib.hid hc; have HINS := Lib.hid hins; have HRL := Lib.hid hrl; have HOL := Lib.hid hol; have HM := Lib.hid hm; have HOK := Lib.hid ok; have HK := Lib.hid hK; have PW := Lib.hid hpw
  clear h hW hxW hbox hc hins hrl hol hm ok hK hpw
  go_enter Try.func93, Try.ntmps93
  go_wp2_with fail
  rw [← HW.out]
  refine (beginOf_any m GA gn gc RA rn rc OA on oc N W HN.out hr20).mono ?_; rintro e w1 ⟨v1, rfl, hown1, x1⟩
  obtain ⟨A1, c1, rfl, -, -, hs1⟩ := own_sl hown1
  have X1 := Lib.hid x1; have HO1 := Lib.hid hown1
  have HFL : Hid ((firstM N).length = rn) := hs1.len
  clear hown1 x1 hs1
  go_wp2_with fail
  obtain ⟨w2, hw2⟩ : ∃ w2, w2 = w1.alloc (.cells #[.slice A1 rn c1] 24) := ⟨_, rfl⟩
  obtain ⟨w3, hw3⟩ : ∃ w3, w3 = w2.alloc (.cells #[.slice none 0 0] 24) := ⟨_, rfl⟩
  have hx2 : Ext w1 w2 := by rw [hw2]; exact (Ext.refl _).alloc _
  have hx3 : Ext w2 w3 := by rw [hw3]; exact (Ext.refl _).alloc _
  have hs2 : w2.heap.size = w1.heap.size + 1 := by rw [hw2]; simp
  have htwo : TwoR w3 W.heap.size (.slice (some ⟨w1.heap.size, 0, none⟩) 1 1) (.slice (some ⟨w1.heap.size + 1, 0, none⟩) 1 1) [(firstM N, [])] [.slice A1 rn c1] [.slice none 0 0] := by
    refine ⟨⟨?_, fun k v r hv hr => ?_⟩, ⟨?_, fun k v r hv hr => ?_⟩, ?_⟩
    · exact own_ext (by rw [hw2]; exact own_one w1 _ _ _ _ rfl X1.out.size) hx3
    · cases k with
      | zero =>
        simp at hv hr
        subst hv; subst hr
        have := own_ext HO1.out (hx2.trans hx3)
        rw [HFL.out]; exact this
      | succ k => simp at hv
    · rw [hw3]; exact own_one w2 _ _ _ _ hs2.symm (Nat.le_trans X1.out.size hx2.size)
    · cases k with
      | zero =>
        simp at hv hr
        subst hv; subst hr
        exact World.ownsRow_nil _ _ _ _
      | succ k => simp at hv
    · intro g hg e
      simp only [Value.ownBlock, Option.some.injEq] at hg e
      omega
  have HT := Lib.hid htwo; have X3 := Lib.hid (X1.out.trans (hx2.trans hx3))
  have HW3 : Hid (w3 = (w1.alloc (.cells #[.slice A1 rn c1] 24)).alloc (.cells #[.slice none 0 0] 24)) := by unfold Hid; rw [hw3, hw2]
  clear hw2 hw3 hx2 hx3 hs2 htwo
  rw [← HW3.out]
  go_loopw [5, 6, 7] (fun va vb j wr => ∃ (k : Nat) (ps : List Place) (us ws : List Value), k ≤ ps.length ∧ j = .int .i64 k ∧ Ext W wr ∧ TwoR wr W.heap.size va vb ps us ws ∧ PlacesV N ps ∧ walkX N (65 - k) k ps = reachM N) (fun _ _ j _ => 65 - (intOf j).toNat)
  case atStart => exact ⟨0, _, _, _, Nat.zero_le _, rfl, X3.out, HT.out, PlacesV.start N, rfl⟩
  case round =>
    obtain ⟨k, ps, us, ws, hk, rfl, hext, htwo, hpv, hwx⟩ := hrel
    have h64 := hpv.ok.few
    obtain ⟨pn, hpn⟩ : ∃ pn, pn = ps.length := ⟨_, rfl⟩
    obtain ⟨sA, sc, esl, hsc1, hsc2, -⟩ := htwo.a.slice
    rw [List.length_map, ← hpn] at esl hsc1
    subst esl
    rw [← hpn] at hk h64
    by_cases hlt : k < pn
    · obtain ⟨p, hp⟩ : ∃ p, ps[k]? = some p := ⟨_, List.getElem?_eq_getElem (by omega)⟩
      have hwl := hpv.wl p (List.mem_of_getElem? hp)
      rw [← hpn] at hwl
      have hwxs : walkX N (65 - k) k ps = match stepX N p (upX (2 ^ N.ins.toNat)) ps with | .ok qs => walkX N (65 - (k + 1)) (k + 1) qs | .bad w => .bad w | .many => .many := by
        rw [show 65 - k = (65 - (k + 1)) + 1 from by omega]
        simp only [walkX, hp]
        cases stepX N p (upX (2 ^ N.ins.toNat)) ps <;> rfl
      rw [hwx, HM.out, ← HK.out] at hwxs
      have HP := Lib.hid hp; have HE := Lib.hid hext; have HTW := Lib.hid htwo; have HPV := Lib.hid hpv; have HWX := Lib.hid hwxs; have HPN := Lib.hid hpn
      clear hp hext htwo hpv hwxs hwx hpn
      go_wp2_with fail
      go_loopw [5, 6, 8] (fun va vb j wr => ∃ (q : Nat) (qs : List Place) (us ws : List Value), q ≤ K ∧ j = .int .i64 q ∧ Ext W wr ∧ TwoR wr W.heap.size va vb qs us ws ∧ PlacesV N qs ∧ pn ≤ qs.length ∧ qs[k]? = some p ∧ stepX N p ((upX K).drop q) qs = stepX N p (upX K) ps) (fun _ _ j _ => K - (intOf j).toNat)
      case atStart => exact ⟨0, ps, us, ws, Nat.zero_le _, rfl, HE.out, HTW.out, HPV.out, by rw [HPN.out]; exact Nat.le_refl _, HP.out, rfl⟩
      case round =>
        obtain ⟨q, qs, us, ws, hq, rfl, hext, htwo, hpv, hlen, hqp, hst⟩ := hrel
        obtain ⟨q0, q1, q2, q3⟩ := HBox.out.keep hext.keeps
        have h64q := hpv.ok.few
        by_cases hlq : q < K
        · have hdr := upX_drop hlq
          rw [hdr] at hst
          obtain ⟨qn, hqn⟩ : ∃ qn, qn = qs.length := ⟨_, rfl⟩
          have hqn64 : qn ≤ 64 := by omega
          have hkqn : k < qn := by have := (List.getElem?_eq_some_iff.1 hqp).1; omega
          obtain ⟨sB, sd, esl, hsd1, hsd2, -⟩ := htwo.a.slice
          rw [List.length_map, ← hqn] at esl hsd1
          subst esl
          obtain ⟨yB, yd, esl, hyd1, hyd2, -⟩ := htwo.b.slice
          rw [List.length_map, ← hqn] at esl hyd1
          subst esl
          have hkq : k < qs.length := (List.getElem?_eq_some_iff.1 hqp).1
          have hrowA := htwo.a.row; have hrowB := htwo.b.row
          rw [List.length_map, ← hqn] at hrowA hrowB
          obtain ⟨ga, gac, e1⟩ := own_form hrowA (by omega)
          have eA : sB = some ⟨ga, 0, none⟩ := by injection e1
          obtain ⟨gb, gbc, e2⟩ := own_form hrowB (by omega)
          have eB : yB = some ⟨gb, 0, none⟩ := by injection e2
          clear e1 e2
          subst eA; subst eB
          obtain ⟨uk, huk⟩ : ∃ v, us[k]? = some v := ⟨_, List.getElem?_eq_getElem (by have := htwo.a.vl; rw [List.length_map] at this; omega)⟩
          obtain ⟨wk, hwk⟩ : ∃ v, ws[k]? = some v := ⟨_, List.getElem?_eq_getElem (by have := htwo.b.vl; rw [List.length_map] at this; omega)⟩
          have o1 := htwo.a.own k uk p.1 huk (by rw [List.getElem?_map, hqp]; rfl)
          have o2 := htwo.b.own k wk p.2 hwk (by rw [List.getElem?_map, hqp]; rfl)
          have hv := hpv.vals (List.mem_of_getElem? hqp)
          have hval := hv.1
          have hwlq := hpv.wl p (List.mem_of_getElem? hqp)
          have hlr : p.1.length = rn := hv.2.trans HRL.out
          rw [hlr] at o1
          obtain ⟨pw, hpw⟩ : ∃ pw, pw = p.2.length := ⟨_, rfl⟩
          rw [← hpw] at o2 hwlq
          obtain ⟨XA, xc, rfl, -, -, hs9⟩ := own_sl o1
          obtain ⟨WA, wc, rfl, -, -, hsw⟩ := own_sl o2
          have c1' := hrowA.cellAt k (by omega)
          have c2' := hrowB.cellAt k (by omega)
          rw [huk] at c1'
          rw [hwk] at c2'
          obtain ⟨wz, hwz⟩ : ∃ wz, wz = wr.alloc (.cells #[] 3) := ⟨_, rfl⟩
          have hxz : Ext wr wz := by rw [hwz]; exact (Ext.refl _).alloc _
          have c3' := hxz.keeps _ _ c2'
          rw [hwz] at c3'
          have hown0 : wz.ownsRow wr.heap.size 3 1 (.slice (some ⟨wr.heap.size, 0, none⟩) 0 0) 0 [] := by rw [hwz]; exact own_empty wr _ _ _ (Nat.le_refl _)
          have hask := asked0 HC.out hv.2 hval (q : Int)
          have ak := askedM_ok hask
          rw [HM.out] at hask ak
          have hq8 : q < 8 := by omega
          have hbt : ∀ Q, Calls Try.prog 102 #[I q, I m] Q fun e w' => ∃ v, e = .returned v ∧ w'.ownsRow Q.heap.size 3 1 v m ((bitsM q m).map I) ∧ Ext Q w' := fun Q => rbits_any q m Q (by omega) (by omega) (by omega)
          have HE1 := Lib.hid hext; have HT1 := Lib.hid htwo; have HPV1 := Lib.hid hpv; have HQP := Lib.hid hqp; have HST := Lib.hid hst
          have HQN := Lib.hid hqn; have HUK := Lib.hid huk; have HWK := Lib.hid hwk; have O1 := Lib.hid o1; have HPW := Lib.hid hpw; have HS9 := Lib.hid hs9; have HSW := Lib.hid (hsw.keep hxz.keeps); have HWZ := Lib.hid hwz; have HXZ := Lib.hid hxz; have HOZ := Lib.hid hown0; have HASK := Lib.hid hask; have HAK := Lib.hid ak; have BT := Lib.hid hbt; have HSD := Lib.hid (And.intro (And.intro hsd1 hsd2) (And.intro hyd1 hyd2)); have CA := Lib.hid c1'
          clear hext htwo hpv hqp hst hdr hqn huk hwk o1 o2 hpw hs9 hsw hwz hxz hown0 hask ak hbt hrowA hrowB hv hval hlr c1'
          go_wp2_with fail
          refine (PW.out _).mono ?_; rintro e w' ⟨rfl, rfl⟩
          go_upto_region 9 with fail
          clear c2'
          go_wp2_with (first
            | (at_builtin; rw [← HWZ.out]; refine wpList_appendBig rfl (.tmp 32) (.tmp 36) 24 3 rfl tab_int' Try.underlying24 rfl (by omega) wr HXZ.out _ 0 [] rfl HOZ.out WA pw wc (p.2.map I) rfl HSW.out (ints_one _) (by omega) (by omega) ?_; intro v5 w5 hown5 hx5 hg5 hf5; clear hg5 hf5 c3')
            | (at_builtin; refine wpList_push rfl (.tmp 37) (.tmp 39) 24 3 rfl tab_int' Try.underlying24 rfl (by omega) wr w5 hx5 _ (0 + pw) _ rfl hown5 [I q] rfl rfl rfl (by simp [Value.oneCell']) (by unfold maxLen; omega) (by omega) ?_; intro v7 w7 hown7 hx7 hg7; clear hg7 hx5 hown5))
          have hway : ([] ++ p.2.map I) ++ [I q] = (p.2 ++ [(q : Int)]).map I := by simp
          have hwl7 : pw + 1 = (p.2 ++ [(q : Int)]).length := by rw [List.length_append, ← HPW.out]; simp
          rw [hway, Nat.zero_add] at hown7
          obtain ⟨YA, yc, rfl, -, -, -⟩ := own_slice hown7
          have hown8 : w7.ownsRow wr.heap.size 3 1 (.slice YA (pw + 1) yc) (p.2 ++ [(q : Int)]).length ((p.2 ++ [(q : Int)]).map I) := by rw [← hwl7]; exact hown7
          have hbx := HBox.out.keep (HE1.out.trans hx7).keeps
          have B0 : Hid (w7.cell? ⟨w.heap.size, 0, none⟩ = some (I m)) := hbx.1
          have B1 : Hid (w7.cell? ⟨w.heap.size, 1, none⟩ = some (.slice GA gn gc)) := hbx.2.1
          have B2 : Hid (w7.cell? ⟨w.heap.size, 2, none⟩ = some (.slice RA rn rc)) := hbx.2.2.1
          have B3 : Hid (w7.cell? ⟨w.heap.size, 3, none⟩ = some (.slice OA on oc)) := hbx.2.2.2
          have D0 := Lib.hid (hx7.keeps _ _ CA.out)
          have HWAY := Lib.hid (own_base hown8 HE1.out.size); have X7 := Lib.hid (HE1.out.trans hx7); have X7r := Lib.hid hx7
          have NN := Lib.hid (HN.out.keep (HE1.out.trans hx7).keeps); have S9 := Lib.hid (HS9.out.keep hx7.keeps)
          clear hway hwl7 hown7 hown8 hbx hx7 q0 q1 q2 q3
          cases htn : turnN N p.1 (bitsM q m) with
          | none =>
            have hbad := stepX_none (xs := (upX K).drop (q + 1)) (ps := qs) (x := (q : Int)) (by rw [HM.out]; exact htn)
            have HR : Hid (reachM N = .bad (p.2 ++ [(q : Int)])) := by
              have := HWX.out
              rw [← HST.out, hbad] at this
              exact this
            have tn : ∀ Q (Ab : Option Addr) (cb : Nat), Ext w7 Q → Sl Q Ab m ((bitsM q m).map I) → Calls Try.prog 55 #[netV m GA gn gc RA rn rc OA on oc, .slice XA rn xc, .slice Ab m cb] Q fun e w' => ∃ vo vn, e = .returned (Pr3 vo vn (I 6)) ∧ Ext Q w' := fun Q Ab cb hQ hsb => by
              refine (doOf_any m GA gn gc RA rn rc OA on oc N XA rn xc Ab m cb p.1 (bitsM q m) Q (NN.out.keep hQ.keeps) (S9.out.keep hQ.keeps) hsb (by unfold maxLen; omega) (by unfold maxLen; omega) (by omega)).mono fun e w' ⟨vo, vn, he, ho⟩ => ⟨vo, vn, ?_, ho.2.2⟩
              rw [he]; unfold doE; rw [if_neg (by simp [HASK.out]), htn]; rfl
            have TN := Lib.hid tn
            clear tn hbad htn
            go_wp2_with fail
            refine wp_flow3 17 0 [isV (.agg #[.int .i64 m, .slice GA gn gc, .slice RA rn rc, .slice OA on oc]), isV (.slice (some ⟨ga, 0, none⟩) qn sd), isV (.int .i64 k), isV (.pointer (some ⟨ga, k, none⟩)), isV (.slice XA rn xc), isV (.int .i64 q), isV (.pointer (some ⟨w.heap.size, 0, none⟩)), isV (.int .i64 m), fun v w => ∃ A c, v = .slice A m c ∧ w.ownsRow w7.heap.size 3 1 (.slice A m c) m ((bitsM q m).map I), fun v _ => ∃ A B : Value, v = .tuple #[A, B, .int .i64 6], fun v _ => ∃ A B : Value, v = .tuple #[A, B, .int .i64 6], fun _ _ => True, fun _ _ => True, isV (.int .i64 6), fun _ _ => True, fun _ _ => True, isV (.int .i64 6)] (by kernel_rfl) rfl rfl (by kernel_rfl) (by kernel_rfl) ⟨isV_mono, isV_mono, isV_mono, isV_mono, isV_mono, isV_mono, isV_mono, isV_mono, fun v w w' ⟨A, c, e, h⟩ hx => ⟨A, c, e, own_ext h hx⟩, fun v w w' h hx => h, fun v w w' h hx => h, fun v w w' h hx => trivial, fun v w w' h hx => trivial, isV_mono, fun v w w' h hx => trivial, fun v w w' h hx => trivial, isV_mono, trivial⟩ ?each ?rest
            case each =>
              refine .cons ?_ (.cons ?_ (.cons ?_ (.cons ?_ (.cons ?_ (.cons ?_ (.cons ?_ (.cons ?_ (.cons ?_ (.cons ?_ (.cons ?_ (.cons ?_ (.cons ?_ (.cons ?_ (.cons ?_ (.cons ?_ (.cons ?_ (.nil)))))))))))))))))
              · intro fa fw hx hs hb
                have s1 : fa.tmps[(1 : Nat)]? = some (.pointer (some ⟨w.heap.size, 0, none⟩)) := (hb 1 (by kernel_rfl)).trans (by rfl)
                have c0 := hx.keeps _ _ B0.out
                have c1 := hx.keeps _ _ B1.out
                have c2 := hx.keeps _ _ B2.out
                have c3 := hx.keeps _ _ B3.out
                refine .inl ⟨wanted_free rfl, fun K hK => ?_⟩
                clear hs hb hx
                go_simp
                exact hK _ _ rfl (Ext.refl _)
              · intro fa fw hx hs hb
                have s5 : fa.tmps[(5 : Nat)]? = some (.slice (some ⟨ga, 0, none⟩) qn sd) := (hb 5 (by kernel_rfl)).trans (by rfl)
                refine .inl ⟨wanted_free rfl, fun K hK => ?_⟩
                clear hs hb hx
                go_simp
                exact hK _ _ rfl (Ext.refl _)
              · intro fa fw hx hs hb
                have s7 : fa.tmps[(7 : Nat)]? = some (.int .i64 k) := (hb 7 (by kernel_rfl)).trans (by rfl)
                refine .inl ⟨wanted_free rfl, fun K hK => ?_⟩
                clear hs hb hx
                go_simp
                exact hK _ _ rfl (Ext.refl _)
              · intro fa fw hx hs hb
                obtain ⟨_, s43, rfl⟩ := hs 1 43 (by kernel_rfl) (by kernel_rfl)
                obtain ⟨_, s44, rfl⟩ := hs 2 44 (by kernel_rfl) (by kernel_rfl)
                refine .inl ⟨wanted_free rfl, fun K hK => ?_⟩
                clear hs hb hx
                go_simp
                exact hK _ _ rfl (Ext.refl _)
              · intro fa fw hx hs hb
                obtain ⟨_, s45, rfl⟩ := hs 3 45 (by kernel_rfl) (by kernel_rfl)
                have c0 := hx.keeps _ _ D0.out
                refine .inl ⟨wanted_free rfl, fun K hK => ?_⟩
                clear hs hb hx
                go_simp
                exact hK _ _ rfl (Ext.refl _)
              · intro fa fw hx hs hb
                have s8 : fa.tmps[(8 : Nat)]? = some (.int .i64 q) := (hb 8 (by kernel_rfl)).trans (by rfl)
                refine .inl ⟨wanted_free rfl, fun K hK => ?_⟩
                clear hs hb hx
                go_simp
                exact hK _ _ rfl (Ext.refl _)
              · intro fa fw hx hs hb
                have s1 : fa.tmps[(1 : Nat)]? = some (.pointer (some ⟨w.heap.size, 0, none⟩)) := (hb 1 (by kernel_rfl)).trans (by rfl)
                refine .inl ⟨wanted_free rfl, fun K hK => ?_⟩
                clear hs hb hx
                go_simp
                exact hK _ _ rfl (Ext.refl _)
              · intro fa fw hx hs hb
                obtain ⟨_, s48, rfl⟩ := hs 6 48 (by kernel_rfl) (by kernel_rfl)
                have c0 := hx.keeps _ _ B0.out
                refine .inl ⟨wanted_free rfl, fun K hK => ?_⟩
                clear hs hb hx
                go_simp
                exact hK _ _ rfl (Ext.refl _)
              · intro fa fw hx hs hb
                obtain ⟨_, s47, rfl⟩ := hs 5 47 (by kernel_rfl) (by kernel_rfl)
                obtain ⟨_, s49, rfl⟩ := hs 7 49 (by kernel_rfl) (by kernel_rfl)
                refine .inl ⟨wanted_free rfl, fun K hK => ?_⟩
                clear hs hb
                go_simp
                refine (BT.out fw).mono ?_
                rintro e w' ⟨r0, rfl, ho, xq⟩
                obtain ⟨Aq, cq, rfl, -, -, -⟩ := own_sl ho
                exact hK _ _ ⟨Aq, cq, rfl, own_base ho hx.size⟩ xq
              · intro fa fw hx hs hb
                obtain ⟨_, s42, rfl⟩ := hs 0 42 (by kernel_rfl) (by kernel_rfl)
                obtain ⟨_, s46, rfl⟩ := hs 4 46 (by kernel_rfl) (by kernel_rfl)
                obtain ⟨_, s50, A50, c50, rfl, q50⟩ := hs 8 50 (by kernel_rfl) (by kernel_rfl)
                refine .inl ⟨wanted_free rfl, fun K hK => ?_⟩
                clear hs hb
                obtain ⟨Ar, cr, er, -, hcm, hsr⟩ := own_sl q50
                injection er with er _ ec
                subst er; subst ec
                go_simp
                refine (TN.out fw A50 c50 hx hsr).mono ?_
                rintro e w' ⟨vo, vn, rfl, xq⟩
                exact hK _ _ ⟨vo, vn, rfl⟩ xq
              · intro fa fw hx hs hb
                obtain ⟨_, s51, A51, B51, rfl⟩ := hs 9 51 (by kernel_rfl) (by kernel_rfl)
                refine .inl ⟨wanted_free rfl, fun K hK => ?_⟩
                clear hs hb
                go_simp
                exact hK _ _ ⟨A51, B51, rfl⟩ (Ext.refl _)
              · intro fa fw hx hs hb
                obtain ⟨_, s41, A41, B41, rfl⟩ := hs 10 41 (by kernel_rfl) (by kernel_rfl)
                refine .inl ⟨wanted_free rfl, fun K hK => ?_⟩
                clear hs hb
                go_simp
                exact hK _ _ trivial (Ext.refl _)
              · intro fa fw hx hs hb
                obtain ⟨_, s41, A41, B41, rfl⟩ := hs 10 41 (by kernel_rfl) (by kernel_rfl)
                refine .inl ⟨wanted_free rfl, fun K hK => ?_⟩
                clear hs hb
                go_simp
                exact hK _ _ trivial (Ext.refl _)
              · intro fa fw hx hs hb
                obtain ⟨_, s41, A41, B41, rfl⟩ := hs 10 41 (by kernel_rfl) (by kernel_rfl)
                refine .inl ⟨wanted_free rfl, fun K hK => ?_⟩
                clear hs hb
                go_simp
                exact hK _ _ rfl (Ext.refl _)
              · intro fa fw hx hs hb
                obtain ⟨v52, s52, _⟩ := hs 11 52 (by kernel_rfl) (by kernel_rfl)
                refine .inl ⟨wanted_free rfl, fun K hK => ?_⟩
                clear hs hb
                go_simp
                exact hK _ _ trivial (Ext.refl _)
              · intro fa fw hx hs hb
                obtain ⟨v53, s53, _⟩ := hs 12 53 (by kernel_rfl) (by kernel_rfl)
                refine .inl ⟨wanted_free rfl, fun K hK => ?_⟩
                clear hs hb
                go_simp
                exact hK _ _ trivial (Ext.refl _)
              · intro fa fw hx hs hb
                obtain ⟨_, s54, rfl⟩ := hs 13 54 (by kernel_rfl) (by kernel_rfl)
                refine .inl ⟨wanted_free rfl, fun K hK => ?_⟩
                clear hs hb hx
                go_simp
                exact hK _ _ rfl (Ext.refl _)
            case rest =>
              intro w2 hxw2
              rintro _ rfl
              rintro _ rfl
              rintro _ rfl
              rintro _ rfl
              rintro _ rfl
              rintro _ rfl
              rintro _ rfl
              rintro _ rfl
              rintro _ ⟨A50, c50, rfl, q50⟩
              rintro _ ⟨A51, B51, rfl⟩
              rintro _ ⟨A41, B41, rfl⟩
              rintro _ ⟨⟨v52, s52, _⟩⟩
              rintro _ ⟨⟨v53, s53, _⟩⟩
              rintro _ rfl
              rintro _ ⟨⟨v10, s10, _⟩⟩
              rintro _ ⟨⟨v11, s11, _⟩⟩
              rintro _ rfl
              simp only [putAll, List.take, Act.put, List.setIfInBounds_toArray, List.set_cons_zero, List.set_cons_succ]
              refine wpAny_done (by kernel_rfl) ?_ _
              have HW2 := Lib.hid (own_ext HWAY.out hxw2); have X2 := Lib.hid (X7.out.trans hxw2)
              clear hxw2
              go_wp2
              exact bodyPost_ret (v := Pr3 (.slice none 0 0) (.slice YA (pw + 1) yc) (I 6)) (by simp [results, Try.results93, go_sem]) rfl ⟨HX.out.trans X2.out, by rw [HR.out]; exact ⟨_, rfl, own_base HW2.out HX.out.size⟩⟩
          | some o =>
            have hsome := stepX_some (xs := (upX K).drop (q + 1)) (ps := qs) (x := (q : Int)) (by rw [HM.out]; exact htn)
            have hol2 := turnN_len htn
            rw [HOL.out, HRL.out] at hol2
            have tn : ∀ Q (Ab : Option Addr) (cb : Nat), Ext w7 Q → Sl Q Ab m ((bitsM q m).map I) → Calls Try.prog 55 #[netV m GA gn gc RA rn rc OA on oc, .slice XA rn xc, .slice Ab m cb] Q fun e w' => ∃ vo vn, e = .returned (Pr3 vo vn (I 0)) ∧ w'.ownsRow Q.heap.size 3 1 vo on (o.1.map I) ∧ w'.ownsRow Q.heap.size 3 1 vn rn (o.2.map I) ∧ Ext Q w' := fun Q Ab cb hQ hsb => by
              have htq : turnQ N p.1 (bitsM q m) = o := by unfold turnQ; rw [htn]; rfl
              have hdq : doQ N p.1 (bitsM q m) = o := by unfold doQ; rw [if_neg (by simp [HASK.out]), htq]
              refine (doOf_any m GA gn gc RA rn rc OA on oc N XA rn xc Ab m cb p.1 (bitsM q m) Q (NN.out.keep hQ.keeps) (S9.out.keep hQ.keeps) hsb (by unfold maxLen; omega) (by unfold maxLen; omega) (by omega)).mono fun e w' ⟨vo, vn, he, ho⟩ => ⟨vo, vn, ?_, ?_, ?_, ho.2.2⟩
              · rw [he]; unfold doE; rw [if_neg (by simp [HASK.out]), htn]; rfl
              · have := ho.1; rw [hdq, hol2.1] at this; exact this
              · have := ho.2.1; rw [hdq, hol2.2] at this; exact this
            have hadv : ∀ rs, addM qs (o.2, p.2 ++ [(q : Int)]) = some rs → PlacesV N rs ∧ qs.length ≤ rs.length ∧ (∀ (k : Nat) (y : Place), qs[k]? = some y → rs[k]? = some y) := fun rs hrs => HPV1.out.add (List.mem_of_getElem? HQP.out) (by rw [HM.out, ← HK.out]; omega) (by rw [HM.out]; exact htn) hrs
            have hst2 := HST.out
            rw [hsome] at hst2
            have TN := Lib.hid tn; have HADV := Lib.hid hadv; have HST2 := Lib.hid hst2; have HO2 := Lib.hid hol2.2
            clear tn hsome htn hol2 hadv hst2
            go_wp2_with fail
            refine wp_flow3 17 0 [isV (.agg #[.int .i64 m, .slice GA gn gc, .slice RA rn rc, .slice OA on oc]), isV (.slice (some ⟨ga, 0, none⟩) qn sd), isV (.int .i64 k), isV (.pointer (some ⟨ga, k, none⟩)), isV (.slice XA rn xc), isV (.int .i64 q), isV (.pointer (some ⟨w.heap.size, 0, none⟩)), isV (.int .i64 m), fun v w => ∃ A c, v = .slice A m c ∧ w.ownsRow w7.heap.size 3 1 (.slice A m c) m ((bitsM q m).map I), fun v w => ∃ A c B d, v = .tuple #[.slice A on c, .slice B rn d, .int .i64 0] ∧ w.ownsRow w7.heap.size 3 1 (.slice A on c) on (o.1.map I) ∧ w.ownsRow w7.heap.size 3 1 (.slice B rn d) rn (o.2.map I), fun v w => ∃ A c B d, v = .tuple #[.slice A on c, .slice B rn d, .int .i64 0] ∧ w.ownsRow w7.heap.size 3 1 (.slice A on c) on (o.1.map I) ∧ w.ownsRow w7.heap.size 3 1 (.slice B rn d) rn (o.2.map I), fun v w => ∃ A c, v = .slice A on c ∧ w.ownsRow w7.heap.size 3 1 (.slice A on c) on (o.1.map I), fun v w => ∃ A c, v = .slice A rn c ∧ w.ownsRow w7.heap.size 3 1 (.slice A rn c) rn (o.2.map I), isV (.int .i64 0), fun v w => ∃ A c, v = .slice A on c ∧ w.ownsRow w7.heap.size 3 1 (.slice A on c) on (o.1.map I), fun v w => ∃ A c, v = .slice A rn c ∧ w.ownsRow w7.heap.size 3 1 (.slice A rn c) rn (o.2.map I), isV (.int .i64 0)] (by kernel_rfl) rfl rfl (by kernel_rfl) (by kernel_rfl) ⟨isV_mono, isV_mono, isV_mono, isV_mono, isV_mono, isV_mono, isV_mono, isV_mono, fun v w w' ⟨A, c, e, h⟩ hx => ⟨A, c, e, own_ext h hx⟩, fun v w w' ⟨A, c, B, d, e, h, k⟩ hx => ⟨A, c, B, d, e, own_ext h hx, own_ext k hx⟩, fun v w w' ⟨A, c, B, d, e, h, k⟩ hx => ⟨A, c, B, d, e, own_ext h hx, own_ext k hx⟩, fun v w w' ⟨A, c, e, h⟩ hx => ⟨A, c, e, own_ext h hx⟩, fun v w w' ⟨A, c, e, h⟩ hx => ⟨A, c, e, own_ext h hx⟩, isV_mono, fun v w w' ⟨A, c, e, h⟩ hx => ⟨A, c, e, own_ext h hx⟩, fun v w w' ⟨A, c, e, h⟩ hx => ⟨A, c, e, own_ext h hx⟩, isV_mono, trivial⟩ ?each ?rest
            case each =>
              refine .cons ?_ (.cons ?_ (.cons ?_ (.cons ?_ (.cons ?_ (.cons ?_ (.cons ?_ (.cons ?_ (.cons ?_ (.cons ?_ (.cons ?_ (.cons ?_ (.cons ?_ (.cons ?_ (.cons ?_ (.cons ?_ (.cons ?_ (.nil)))))))))))))))))
              · intro fa fw hx hs hb
                have s1 : fa.tmps[(1 : Nat)]? = some (.pointer (some ⟨w.heap.size, 0, none⟩)) := (hb 1 (by kernel_rfl)).trans (by rfl)
                have c0 := hx.keeps _ _ B0.out
                have c1 := hx.keeps _ _ B1.out
                have c2 := hx.keeps _ _ B2.out
                have c3 := hx.keeps _ _ B3.out
                refine .inl ⟨wanted_free rfl, fun K hK => ?_⟩
                clear hs hb hx
                go_simp
                exact hK _ _ rfl (Ext.refl _)
              · intro fa fw hx hs hb
                have s5 : fa.tmps[(5 : Nat)]? = some (.slice (some ⟨ga, 0, none⟩) qn sd) := (hb 5 (by kernel_rfl)).trans (by rfl)
                refine .inl ⟨wanted_free rfl, fun K hK => ?_⟩
                clear hs hb hx
                go_simp
                exact hK _ _ rfl (Ext.refl _)
              · intro fa fw hx hs hb
                have s7 : fa.tmps[(7 : Nat)]? = some (.int .i64 k) := (hb 7 (by kernel_rfl)).trans (by rfl)
                refine .inl ⟨wanted_free rfl, fun K hK => ?_⟩
                clear hs hb hx
                go_simp
                exact hK _ _ rfl (Ext.refl _)
              · intro fa fw hx hs hb
                obtain ⟨_, s43, rfl⟩ := hs 1 43 (by kernel_rfl) (by kernel_rfl)
                obtain ⟨_, s44, rfl⟩ := hs 2 44 (by kernel_rfl) (by kernel_rfl)
                refine .inl ⟨wanted_free rfl, fun K hK => ?_⟩
                clear hs hb hx
                go_simp
                exact hK _ _ rfl (Ext.refl _)
              · intro fa fw hx hs hb
                obtain ⟨_, s45, rfl⟩ := hs 3 45 (by kernel_rfl) (by kernel_rfl)
                have c0 := hx.keeps _ _ D0.out
                refine .inl ⟨wanted_free rfl, fun K hK => ?_⟩
                clear hs hb hx
                go_simp
                exact hK _ _ rfl (Ext.refl _)
              · intro fa fw hx hs hb
                have s8 : fa.tmps[(8 : Nat)]? = some (.int .i64 q) := (hb 8 (by kernel_rfl)).trans (by rfl)
                refine .inl ⟨wanted_free rfl, fun K hK => ?_⟩
                clear hs hb hx
                go_simp
                exact hK _ _ rfl (Ext.refl _)
              · intro fa fw hx hs hb
                have s1 : fa.tmps[(1 : Nat)]? = some (.pointer (some ⟨w.heap.size, 0, none⟩)) := (hb 1 (by kernel_rfl)).trans (by rfl)
                refine .inl ⟨wanted_free rfl, fun K hK => ?_⟩
                clear hs hb hx
                go_simp
                exact hK _ _ rfl (Ext.refl _)
              · intro fa fw hx hs hb
                obtain ⟨_, s48, rfl⟩ := hs 6 48 (by kernel_rfl) (by kernel_rfl)
                have c0 := hx.keeps _ _ B0.out
                refine .inl ⟨wanted_free rfl, fun K hK => ?_⟩
                clear hs hb hx
                go_simp
                exact hK _ _ rfl (Ext.refl _)
              · intro fa fw hx hs hb
                obtain ⟨_, s47, rfl⟩ := hs 5 47 (by kernel_rfl) (by kernel_rfl)
                obtain ⟨_, s49, rfl⟩ := hs 7 49 (by kernel_rfl) (by kernel_rfl)
                refine .inl ⟨wanted_free rfl, fun K hK => ?_⟩
                clear hs hb
                go_simp
                refine (BT.out fw).mono ?_
                rintro e w' ⟨r0, rfl, ho, xq⟩
                obtain ⟨Aq, cq, rfl, -, -, -⟩ := own_sl ho
                exact hK _ _ ⟨Aq, cq, rfl, own_base ho hx.size⟩ xq
              · intro fa fw hx hs hb
                obtain ⟨_, s42, rfl⟩ := hs 0 42 (by kernel_rfl) (by kernel_rfl)
                obtain ⟨_, s46, rfl⟩ := hs 4 46 (by kernel_rfl) (by kernel_rfl)
                obtain ⟨_, s50, A50, c50, rfl, q50⟩ := hs 8 50 (by kernel_rfl) (by kernel_rfl)
                refine .inl ⟨wanted_free rfl, fun K hK => ?_⟩
                clear hs hb
                obtain ⟨Ar, cr, er, -, hcm, hsr⟩ := own_sl q50
                injection er with er _ ec
                subst er; subst ec
                go_simp
                refine (TN.out fw A50 c50 hx hsr).mono ?_
                rintro e w' ⟨vo, vn, rfl, h1, h2, xq⟩
                obtain ⟨Aq, cq, rfl, -, -, -⟩ := own_sl h1
                obtain ⟨Bq, dq, rfl, -, -, -⟩ := own_sl h2
                exact hK _ _ ⟨Aq, cq, Bq, dq, rfl, own_base h1 hx.size, own_base h2 hx.size⟩ xq
              · intro fa fw hx hs hb
                obtain ⟨_, s51, A51, c51, B51, d51, rfl, q51, p51⟩ := hs 9 51 (by kernel_rfl) (by kernel_rfl)
                refine .inl ⟨wanted_free rfl, fun K hK => ?_⟩
                clear hs hb
                go_simp
                exact hK _ _ ⟨A51, c51, B51, d51, rfl, q51, p51⟩ (Ext.refl _)
              · intro fa fw hx hs hb
                obtain ⟨_, s41, A41, c41, B41, d41, rfl, q41, p41⟩ := hs 10 41 (by kernel_rfl) (by kernel_rfl)
                refine .inl ⟨wanted_free rfl, fun K hK => ?_⟩
                clear hs hb
                go_simp
                exact hK _ _ ⟨A41, c41, rfl, q41⟩ (Ext.refl _)
              · intro fa fw hx hs hb
                obtain ⟨_, s41, A41, c41, B41, d41, rfl, q41, p41⟩ := hs 10 41 (by kernel_rfl) (by kernel_rfl)
                refine .inl ⟨wanted_free rfl, fun K hK => ?_⟩
                clear hs hb
                go_simp
                exact hK _ _ ⟨B41, d41, rfl, p41⟩ (Ext.refl _)
              · intro fa fw hx hs hb
                obtain ⟨_, s41, A41, c41, B41, d41, rfl, q41, p41⟩ := hs 10 41 (by kernel_rfl) (by kernel_rfl)
                refine .inl ⟨wanted_free rfl, fun K hK => ?_⟩
                clear hs hb
                go_simp
                exact hK _ _ rfl (Ext.refl _)
              · intro fa fw hx hs hb
                obtain ⟨_, s52, A52, c52, rfl, q52⟩ := hs 11 52 (by kernel_rfl) (by kernel_rfl)
                refine .inl ⟨wanted_free rfl, fun K hK => ?_⟩
                clear hs hb
                go_simp
                exact hK _ _ ⟨A52, c52, rfl, q52⟩ (Ext.refl _)
              · intro fa fw hx hs hb
                obtain ⟨_, s53, A53, c53, rfl, q53⟩ := hs 12 53 (by kernel_rfl) (by kernel_rfl)
                refine .inl ⟨wanted_free rfl, fun K hK => ?_⟩
                clear hs hb
                go_simp
                exact hK _ _ ⟨A53, c53, rfl, q53⟩ (Ext.refl _)
              · intro fa fw hx hs hb
                obtain ⟨_, s54, rfl⟩ := hs 13 54 (by kernel_rfl) (by kernel_rfl)
                refine .inl ⟨wanted_free rfl, fun K hK => ?_⟩
                clear hs hb hx
                go_simp
                exact hK _ _ rfl (Ext.refl _)
            case rest =>
              intro w2 hxw2
              rintro _ rfl
              rintro _ rfl
              rintro _ rfl
              rintro _ rfl
              rintro _ rfl
              rintro _ rfl
              rintro _ rfl
              rintro _ rfl
              rintro _ ⟨A50, c50, rfl, q50⟩
              rintro _ ⟨A51, c51, B51, d51, rfl, q51, p51⟩
              rintro _ ⟨A41, c41, B41, d41, rfl, q41, p41⟩
              rintro _ ⟨A52, c52, rfl, q52⟩
              rintro _ ⟨A53, c53, rfl, q53⟩
              rintro _ rfl
              rintro _ ⟨A10, c10, rfl, q10⟩
              rintro _ ⟨A11, c11, rfl, q11⟩
              rintro _ rfl
              simp only [putAll, List.take, Act.put, List.setIfInBounds_toArray, List.set_cons_zero, List.set_cons_succ]
              refine wpAny_done (by kernel_rfl) ?_ _
              have HW2 := Lib.hid (own_ext HWAY.out hxw2); have X2 := Lib.hid (X7.out.trans hxw2); have HT2 := Lib.hid ((HT1.out.ext X7r.out).ext hxw2); have HNX := Lib.hid (own_base q11 X7.out.size)
              obtain ⟨A11', c11', e11, -, -, hs11⟩ := own_sl q11
              injection e11 with e1 _ e2; subst e1; subst e2
              have S11 := Lib.hid hs11
              have hsd := HSD.out.1.2
              clear hxw2 q11 q10 hs11
              go_wp2_with fail
              go_loopw [13, 14] (fun s j wr2 => ∃ (j' : Nat), j' ≤ qn ∧ j = .int .i64 j' ∧ s = .bool (seenM (qs.take j') o.2) ∧ Ext w2 wr2) (fun _ j _ => qn - (intOf j).toNat)
              case atStart => exact ⟨0, Nat.zero_le _, rfl, rfl, Ext.refl _⟩
              case round =>
                obtain ⟨j, hj, rfl, rfl, hext2⟩ := hrel
                by_cases hlj : j < qn
                · obtain ⟨y, hy⟩ : ∃ y, qs[j]? = some y := ⟨_, List.getElem?_eq_getElem (by rw [← HQN.out]; exact hlj)⟩
                  have hsn := seen_next hy o.2
                  cases hb : seenM (qs.take j) o.2 with
                  | true =>
                    rw [hb, Bool.true_or] at hsn
                    have HSN := Lib.hid hsn; have HXX := Lib.hid hext2
                    clear hsn hext2 hb hy
                    go_wp2
                    go_roundw
                    case rel => exact ⟨j + 1, by omega, by go_num, by rw [HSN.out], HXX.out⟩
                    case measure => simp [intOf]; omega
                  | false =>
                    rw [hb, Bool.false_or] at hsn
                    have ht := HT2.out.ext hext2
                    obtain ⟨uj, huj⟩ : ∃ v, us[j]? = some v := ⟨_, List.getElem?_eq_getElem (by have := ht.a.vl; rw [List.length_map, ← HQN.out] at this; omega)⟩
                    have oj := ht.a.own j uj y.1 huj (by rw [List.getElem?_map, hy]; rfl)
                    have hyl : y.1.length = rn := (HPV1.out.vals (List.mem_of_getElem? hy)).2.trans HRL.out
                    rw [hyl] at oj
                    obtain ⟨Aj, cj, rfl, -, -, hsj⟩ := own_sl oj
                    have hrowA := ht.a.row
                    rw [List.length_map, ← HQN.out] at hrowA
                    have cj' := hrowA.cellAt j (by omega)
                    rw [huj] at cj'
                    have HSN := Lib.hid hsn; have HXX := Lib.hid hext2; have SJ := Lib.hid hsj
                    clear hsn hext2 hb hy ht huj oj hyl hsj hrowA
                    go_wp2_with fail
                    refine (sameInts_any Aj A11 rn rn cj c11 y.1 o.2 wr SJ.out (S11.out.keep HXX.out.keeps) (by unfold maxLen; omega) (by unfold maxLen; omega)).mono ?_; rintro e w' ⟨rfl, d, rfl⟩
                    go_wp2
                    go_roundw
                    case rel => exact ⟨j + 1, by omega, by go_num, by rw [HSN.out], HXX.out.drewN d⟩
                    case measure => simp [intOf]; omega
                · obtain rfl : j = qn := by omega
                  have htk : qs.take j = qs := List.take_of_length_le (by rw [HQN.out]; exact Nat.le_refl _)
                  rw [htk]
                  obtain ⟨w8, hw8⟩ : ∃ q, q = wr := ⟨_, rfl⟩
                  subst hw8
                  have HT8 := Lib.hid (HT2.out.ext hext2); have X8 := Lib.hid (X2.out.trans hext2); have HW8 := Lib.hid (own_ext HW2.out hext2); have HN8 := Lib.hid (own_ext HNX.out hext2)
                  clear hext2 htk
                  cases hs : seenM qs o.2 with
                  | true =>
                    have hst2 := HST2.out
                    have hadd : addM qs (o.2, p.2 ++ [(q : Int)]) = some qs := by unfold addM; rw [if_pos hs]
                    rw [hadd] at hst2
                    have HST3 := Lib.hid hst2
                    clear hs hst2 hadd
                    go_wp2
                    go_roundw
                    case rel => exact ⟨q + 1, qs, us, ws, by omega, by go_num, X8.out, HT8.out, HPV1.out, hlen, HQP.out, HST3.out⟩
                    case measure => simp [intOf]; omega
                  | false =>
                    by_cases he : j = 64
                    · have hadd : addM qs (o.2, p.2 ++ [(q : Int)]) = none := by unfold addM; rw [hs, ← HQN.out, he]; rfl
                      have HR : Hid (reachM N = .many) := by
                        have := HWX.out
                        rw [← HST2.out, hadd] at this
                        exact this
                      subst he
                      clear hs hadd
                      go_wp2
                      exact bodyPost_ret (v := Pr3 (.slice none 0 0) (.slice none 0 0) (I 2)) (by simp [results, Try.results93, go_sem]) rfl ⟨HX.out.trans X8.out, by rw [HR.out]⟩
                    · have hadd : addM qs (o.2, p.2 ++ [(q : Int)]) = some (qs ++ [(o.2, p.2 ++ [(q : Int)])]) := by unfold addM; rw [hs, if_neg (by simp), ← HQN.out, if_neg he]
                      have hst2 := HST2.out
                      rw [hadd] at hst2
                      obtain ⟨a1, a2, a3⟩ := HADV.out _ hadd
                      have a3' := a3 _ _ HQP.out
                      have hrowA := HT8.out.a.row; have hrowB := HT8.out.b.row
                      rw [List.length_map, ← HQN.out] at hrowA hrowB
                      have hne := HT8.out.ne ga rfl
                      have hgb := (hrowB.lt gb rfl).2
                      have RA8 := Lib.hid hrowA; have RB8 := Lib.hid hrowB; have HNE := Lib.hid hne; have HGB := Lib.hid hgb; have HST3 := Lib.hid hst2; have AD1 := Lib.hid a1; have AD2 := Lib.hid a2; have AD3 := Lib.hid a3'
                      have hj64 : j < 64 := by omega
                      clear hs hadd hst2 a1 a2 a3 a3' hrowA hrowB hne hgb
                      go_upto_region 22 with (at_builtin; refine wpList_pushL rfl (.tmp 78) (.tmp 80) 57 24 rfl tab_ints Try.underlying57 rfl (by omega) W w8 X8.out (.slice (some ⟨ga, 0, none⟩) j sd) j _ rfl RA8.out [.slice A11 rn c11] rfl rfl w8.heap.size rfl rfl (by simp [Value.oneCell']) (by unfold maxLen; omega) (by omega) ?_; intro g9 cap9 w9 hown9 hx9 hg9 hf9)
                      have hg9' : w8.grownBy w9 (some ga) := hg9
                      have hb9 := HT8.out.b.beside hg9' (.inr HNE.out) (fun n v xs h => by
                        have := own_types h RA8.out (by decide)
                        exact this)
                      have hw9 := HW8.out.kept hg9' (by
                        have := own_types HW8.out RA8.out (by decide)
                        exact this)
                      have ha9 := HT8.out.a.push (by decide) (v := .slice A11 rn c11) (r := o.2) (by rw [HO2.out]; exact HN8.out) (by rw [List.length_map, ← HQN.out]; exact hown9) hg9
                      have hrow9 := hb9.row
                      rw [List.length_map, ← HQN.out] at hrow9
                      have hgne : g9 ≠ gb := by
                        intro e
                        subst e
                        rcases hf9 with h | h
                        · exact HNE.out (by simpa [Value.ownBlock] using h.symm)
                        · have := HGB.out; omega
                      have hg9l := (hown9.lt g9 rfl).2
                      have RB9 := Lib.hid hrow9; have HB9 := Lib.hid hb9; have HA9 := Lib.hid ha9; have HW9 := Lib.hid hw9; have X9 := Lib.hid hx9; have HGN := Lib.hid hgne; have HG9 := Lib.hid hg9l
                      clear hrow9 hb9 ha9 hw9 hx9 hgne hg9l hown9 hg9 hg9' hf9
                      go_wp2_with (at_builtin; refine wpList_pushL rfl (.tmp 82) (.tmp 84) 57 24 rfl tab_ints Try.underlying57 rfl (by omega) W w9 X9.out (.slice (some ⟨gb, 0, none⟩) j yd) j _ rfl RB9.out [.slice YA (pw + 1) yc] rfl rfl w9.heap.size rfl rfl (by simp [Value.oneCell']) (by unfold maxLen; omega) (by omega) ?_; intro g10 cap10 w10 hown10 hx10 hg10 hf10)
                      have hg10' : w9.grownBy w10 (some gb) := hg10
                      have ha10 := HA9.out.beside hg10' (.inr (by intro e; exact HGN.out (by simpa [Value.ownBlock] using e))) (fun n v xs h => by
                        have := own_types h RB9.out (by decide)
                        exact this)
                      have hb10 := HB9.out.push (by decide) (v := .slice YA (pw + 1) yc) (r := p.2 ++ [(q : Int)]) HW9.out (by rw [List.length_map, ← HQN.out]; exact hown10) hg10
                      have htwo : TwoR w10 W.heap.size (.slice (some ⟨g9, 0, none⟩) (j + 1) cap9) (.slice (some ⟨g10, 0, none⟩) (j + 1) cap10) (qs ++ [(o.2, p.2 ++ [(q : Int)])]) (us ++ [.slice A11 rn c11]) (ws ++ [.slice YA (pw + 1) yc]) := by
                        refine ⟨by rw [List.map_append]; exact ha10, by rw [List.map_append]; exact hb10, fun g hg e => ?_⟩
                        simp only [Value.ownBlock, Option.some.injEq] at hg e
                        rcases hf10 with h | h
                        · simp only [Value.ownBlock, Option.some.injEq] at h
                          exact HGN.out (by omega)
                        · have := HG9.out; omega
                      have HTW10 := Lib.hid htwo; have X10 := Lib.hid hx10
                      clear htwo hx10 ha10 hb10 hown10 hg10 hg10' hf10
                      go_wp2
                      go_roundw
                      case rel => exact ⟨q + 1, _, _, _, by omega, by go_num, X10.out, HTW10.out, AD1.out, Nat.le_trans hlen AD2.out, AD3.out, HST3.out⟩
                      case measure => simp [intOf]; omega
        · obtain rfl : q = K := by omega
          have hdr : (upX q).drop q = [] := List.drop_eq_nil_of_le (by rw [upX_len]; exact Nat.le_refl _)
          rw [hdr] at hst
          have HNX : Hid (walkX N (65 - (k + 1)) (k + 1) qs = reachM N) := by
            have := HWX.out
            rw [← hst] at this
            exact this.symm
          have HXN := Lib.hid hext; have HTN := Lib.hid htwo; have HPVN := Lib.hid hpv
          clear hdr hst hext htwo hpv hqp
          go_wp2_with fail
          refine (PW.out _).mono ?_; rintro e w' ⟨rfl, rfl⟩
          go_wp2
          go_roundw
          case rel => exact ⟨k + 1, qs, us, ws, by omega, by go_num, HXN.out, HTN.out, HPVN.out, HNX.out⟩
          case measure => simp [intOf]; omega
    · obtain rfl : k = pn := by omega
      have HR : Hid (reachM N = .ok ps) := by
        have : ps[k]? = none := by rw [List.getElem?_eq_none_iff]; omega
        rw [show 65 - k = (64 - k) + 1 from by omega] at hwx
        simp only [walkX, this] at hwx
        exact hwx.symm
      have HXN := Lib.hid hext; have HTN := Lib.hid htwo
      clear hwx hpv hext htwo hpn
      go_wp2
      exact bodyPost_ret (v := Pr3 (.slice sA k sc) (.slice none 0 0) (I 0)) (by simp [results, Try.results93, go_sem]) rfl ⟨HX.out.trans HXN.out, by rw [HR.out]; exact ⟨_, us, rfl, HTN.out.a.base_le HX.out.size⟩⟩
end
end Go.Proofs.Ytjagbnaacfhokaa
