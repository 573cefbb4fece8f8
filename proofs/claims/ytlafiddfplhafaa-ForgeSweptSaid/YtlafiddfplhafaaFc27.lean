/- Many instants: Run, by the program and by the reference. -/
import Derived.Test.YtlafiddfplhafaaFc14
import Derived.Test.YtlafiddfplhafaaFc02
import Derived.Test.YtlafiddfplhafaaFc04
import Derived.Test.YtlafiddfplhafaaFc20
namespace Go.Proofs.Ytlafiddfplhafaa
set_option linter.unusedVariables false
set_option linter.unusedSimpArgs false
set_option linter.unusedVariables false
set_option linter.unusedSimpArgs false
open Go.RowKit
structure RunSt (N : NetM) (l : List Int) (k : Nat) (r : List Int) (rows : List (List Int)) : Prop where
 eqn : runFrom N (firstM N) l = (runFrom N r (l.drop k)).map fun q => (rows ++ q.1, q.2)
 good : ∀ x ∈ r, x = 0 ∨ x = 1
 len : r.length = N.regs.length
 rl : rows.length = k
theorem RunSt.start (N : NetM) (l : List Int) : RunSt N l 0 (firstM N) [] := ⟨by simp, first_good N, by simp [firstM], rfl⟩
theorem RunSt.next {N : NetM} {l : List Int} {k : Nat} {r : List Int} {rows : List (List Int)} (h : RunSt N l k r rows) {x : Int} (hx : l[k]? = some x) {o : List Int × List Int} (ht : turnN N r (bitsM x N.ins.toNat) = some o) : RunSt N l (k + 1) o.2 (rows ++ [o.1]) := by
 have hk := (List.getElem?_eq_some_iff.1 hx).1
 have hd : l.drop k = x :: l.drop (k + 1) := by
  rw [List.drop_eq_getElem_cons hk]; congr 1; rw [List.getElem?_eq_getElem hk] at hx; injection hx
 refine ⟨?_, (turnN_good (good01 h.good).1 (good01 (bits_good _ _)).1 ht).2, (turnN_len ht).2, by simp [h.rl]⟩
 rw [h.eqn, hd, runFrom, ht]
 simp only [Option.bind_some]
 cases runFrom N o.2 (l.drop (k + 1)) <;> simp
theorem RunSt.stop {N : NetM} {l : List Int} {k : Nat} {r : List Int} {rows : List (List Int)} (h : RunSt N l k r rows) {x : Int} (hx : l[k]? = some x) (ht : turnN N r (bitsM x N.ins.toNat) = none) : runFrom N (firstM N) l = none := by
 have hk := (List.getElem?_eq_some_iff.1 hx).1
 have hd : l.drop k = x :: l.drop (k + 1) := by
  rw [List.drop_eq_getElem_cons hk]; congr 1; rw [List.getElem?_eq_getElem hk] at hx; injection hx
 rw [h.eqn, hd, runFrom, ht]; rfl
theorem RunSt.done {N : NetM} {l : List Int} {r : List Int} {rows : List (List Int)} (h : RunSt N l l.length r rows) : runFrom N (firstM N) l = some (rows, r) := by
 rw [h.eqn, List.drop_length, runFrom]; simp
theorem RunSt.asked {N : NetM} {l : List Int} {k : Nat} {r : List Int} {rows : List (List Int)} (h : RunSt N l k r rows) (hc : checkN N = 0) (x : Int) : askedM N r (bitsM x N.ins.toNat) = 0 := by
 have ok := checkN_ok hc
 unfold askedM
 rw [if_neg (by simp [hc]), if_neg (by rw [bits_len]; have := ok.ins0; have := h.len; omega), goodL_any (good01 h.good).1, goodL_any (good01 (bits_good x _)).1]
 simp
theorem timesM_ok {l : List Int} {m : Nat} (h : timesM l m = 0) (hm : m ≤ 3) : l.length ≤ 60 ∧ ∀ x ∈ l, 0 ≤ x ∧ x < 8 := by
 unfold timesM at h
 split at h
 ·cases h
 rename_i h1
 cases hb : l.any (badTime m) with
 | true => rw [hb] at h; simp at h
 | false =>
  refine ⟨by omega, fun x hx => ?_⟩
  have := List.any_eq_false.1 hb x hx
  have hp : (2 : Int) ^ m ≤ 8 := by
   have : m = 0 ∨ m = 1 ∨ m = 2 ∨ m = 3 := by omega
   rcases this with rfl | rfl | rfl | rfl <;> decide
  simp [badTime] at this
  omega
/-- What Run tells: rows, registers, error. -/
def RunE (w w' : World) (e : Ending) (x : Int) (q : List (List Int) × List Int) : Prop :=
 ∃ vr vg vs, e = .returned (Pr3 vr vg (I x)) ∧ OwnRows 23 3 w' w.heap.size vr q.1 vs ∧ w'.ownsRow w.heap.size 3 1 vg q.2.length (q.2.map I) ∧ Ext w w'
set_option maxRecDepth 100000 in
set_option maxHeartbeats 8000000 in
theorem run_any (i : Int) (GA : Option Addr) (gn gc : Nat) (RA : Option Addr) (rn rc : Nat) (OA : Option Addr) (on oc : Nat) (N : NetM) (A : Option Addr) (n c : Nat) (l : List Int) (w : World)
  (h : NetC w i GA gn gc RA rn rc OA on oc N) (hl : Sl w A n (l.map I)) (hn : n ≤ maxLen) :
  Calls Try.prog 16 #[netV i GA gn gc RA rn rc OA on oc, .slice A n c] w fun e w' => RunE w w' e (runE N l) (runV N l) := by
 obtain ⟨W, hW⟩ : ∃ W, W = w.alloc (.cells #[I i, .slice GA gn gc, .slice RA rn rc, .slice OA on oc] 39) := ⟨_, rfl⟩
 have hxW : Ext w W := by rw [hW]; exact (Ext.refl _).alloc _
 have hbox : NetBox W w.heap.size i GA gn gc RA rn rc OA on oc := by rw [hW]; exact NetBox.new w i GA gn gc RA rn rc OA on oc _
 have HN := Lib.hid (h.keep hxW.keeps); have HBox := Lib.hid hbox; have HW := Lib.hid hW; have HX := Lib.hid hxW
 have HL := Lib.hid (hl.keep hxW.keeps); have HNM := Lib.hid hn
 have hins := h.ins; have hrl : N.regs.length = rn := h.regs.1; have hol : N.outs.length = on := h.outs.len
 have hln := hl.len
 clear h hl hW hxW hbox
 by_cases hc : checkN N = 0
 ·have ok := checkN_ok hc
  obtain ⟨m, rfl⟩ : ∃ m : Nat, i = m := ⟨i.toNat, by have := ok.ins0; omega⟩
  have hm : N.ins.toNat = m := by omega
  have hm3 : m ≤ 3 := by have := ok.ins3; omega
  have hr20 : rn ≤ 20 := by have := ok.rl; omega
  have HINS := Lib.hid hins; have HC := Lib.hid hc; have HOK := Lib.hid ok; have HMI := Lib.hid hm
  clear hc ok hins
  by_cases ht : timesM l m = 0
  ·obtain ⟨hl60, hlx⟩ := timesM_ok ht hm3
   have HT := Lib.hid ht; have HLX := Lib.hid hlx
   clear ht hlx
   go_enter Try.func16, Try.ntmps16
   go_wp2_with fail
   rw [← HW.out]
   refine (netCheck_any _ GA gn gc RA rn rc OA on oc N W HN.out).mono ?_; rintro e w1 ⟨rfl, x1⟩; rw [HC.out]
   obtain ⟨q0, q1, q2, q3⟩ := HBox.out.keep x1.keeps
   have X1 := Lib.hid x1; clear x1
   go_wp2_with fail
   refine (times_any A n c l m w1 (HL.out.keep X1.out.keeps) HNM.out hm3).mono ?_; rintro e w2 ⟨rfl, x2⟩; rw [HT.out]
   have X2 := Lib.hid (X1.out.trans x2); clear x2 q0 q1 q2 q3
   obtain ⟨q0, q1, q2, q3⟩ := HBox.out.keep X2.out.keeps
   go_wp2_with fail
   refine (first_any m GA gn gc RA rn rc OA on oc N w2 (HN.out.keep X2.out.keeps) hr20).mono ?_; rintro e w3 ⟨v3, rfl, hown3, x3⟩
   have hown3 := own_base hown3 X2.out.size
   have HO3 := Lib.hid hown3; have X3 := Lib.hid (X2.out.trans x3); clear hown3 x3 q0 q1 q2 q3
   have HST := Lib.hid (RunSt.start N l)
   go_wp2_with fail
   go_loopw [9, 10, 32] (fun sr sa j wr => ∃ (k : Nat) (r : List Int) (rows : List (List Int)) (vs : List Value), k ≤ n ∧ j = .int .i64 k ∧ Ext W wr ∧ wr.ownsRow W.heap.size 3 1 sr rn (r.map I) ∧ OwnRows 23 3 wr W.heap.size sa rows vs ∧ RunSt N l k r rows) (fun _ _ j _ => n - (intOf j).toNat)
   case atStart => exact ⟨0, firstM N, [], [], Nat.zero_le _, rfl, X3.out, HO3.out, OwnRows.nil _ _ _ _, HST.out⟩
   case round =>
    obtain ⟨k, r, rows, vs, hk, rfl, hext, hreg, hrows, hst⟩ := hrel
    by_cases hlt : k < n
    ·obtain ⟨b, off, x, rfl, hc0, hx⟩ := HL.out.at_ hlt
     have hcx := hext.keeps _ _ hc0
     obtain ⟨hx0, hx8⟩ := HLX.out x (List.mem_of_getElem? hx)
     obtain ⟨A9, c9, rfl, -, -, hs9⟩ := own_sl hreg
     have hbx := HBox.out.keep hext.keeps
     have B0 : Hid (wr.cell? ⟨w.heap.size, 0, none⟩ = some (I m)) := hbx.1
     have B1 : Hid (wr.cell? ⟨w.heap.size, 1, none⟩ = some (.slice GA gn gc)) := hbx.2.1
     have B2 : Hid (wr.cell? ⟨w.heap.size, 2, none⟩ = some (.slice RA rn rc)) := hbx.2.2.1
     have B3 : Hid (wr.cell? ⟨w.heap.size, 3, none⟩ = some (.slice OA on oc)) := hbx.2.2.2
     have hask := hst.asked HC.out x
     have ak := askedM_ok hask
     rw [HMI.out] at hask ak
     have NN := HN.out.keep hext.keeps
     have bt : ∀ Q, Calls Try.prog 45 #[I x, I m] Q fun e w' => ∃ v, e = .returned v ∧ w'.ownsRow Q.heap.size 3 1 v m ((bitsM x m).map I) ∧ Ext Q w' := fun Q => bits_any x m Q hx0 hx8 hm3
     have BT := Lib.hid bt
     have hlenr : rows.length = k := hst.rl
     have HE := Lib.hid hext; have HREG := Lib.hid hreg; have HROWS := Lib.hid hrows; have HSTT := Lib.hid hst; have HXX := Lib.hid hx
     cases htn : turnN N r (bitsM x m) with
     | none =>
      have hstop := hst.stop hx (by rw [HMI.out]; exact htn)
      have tn : ∀ Q (Ab : Option Addr) (cb : Nat), Ext wr Q → Sl Q Ab m ((bitsM x m).map I) → Calls Try.prog 44 #[netV m GA gn gc RA rn rc OA on oc, .slice A9 rn c9, .slice Ab m cb] Q fun e w' => ∃ vo vn, e = .returned (Pr3 vo vn (Bv false)) ∧ Ext Q w' := fun Q Ab cb hQ hsb => by
       refine (turn_net_any m GA gn gc RA rn rc OA on oc N A9 rn c9 Ab m cb r (bitsM x m) Q (NN.keep hQ.keeps) (hs9.keep hQ.keeps) hsb ak).mono fun e w' ⟨vo, vn, he, ho⟩ => ⟨vo, vn, ?_, ho.2.2⟩
       rw [he, htn]; rfl
      have TN := Lib.hid tn
      have HRE : Hid (runE N l = 6) := by unfold Hid runE; rw [if_neg (by simp [HC.out]), HMI.out, if_neg (by simp [HT.out]), hstop]; rfl
      have HRV : Hid (runV N l = ([], [])) := by unfold Hid runV; rw [HRE.out]; rfl
      have CX := Lib.hid hcx
      clear hstop tn htn ak NN hs9 hask bt hbx hreg hrows hst hext hx hx0 hx8 hc0
      go_wp2_with fail
      refine wp_flow3 14 0 [isV (.agg #[.int .i64 m, .slice GA gn gc, .slice RA rn rc, .slice OA on oc]), isV (.slice A9 rn c9), isV (.int .i64 x), isV (.pointer (some ⟨w.heap.size, 0, none⟩)), isV (.int .i64 m), fun v w => ∃ A c, v = .slice A m c ∧ w.ownsRow wr.heap.size 3 1 (.slice A m c) m ((bitsM x m).map I), fun v _ => ∃ A B : Value, v = .tuple #[A, B, .bool false], fun v _ => ∃ A B : Value, v = .tuple #[A, B, .bool false], fun _ _ => True, fun _ _ => True, isV (.bool false), fun _ _ => True, fun _ _ => True, isV (.bool false)] (by kernel_rfl) rfl rfl (by kernel_rfl) (by kernel_rfl) ⟨isV_mono, isV_mono, isV_mono, isV_mono, isV_mono, fun v w w' ⟨A, c, e, h⟩ hx => ⟨A, c, e, own_ext h hx⟩, fun v w w' h hx => h, fun v w w' h hx => h, fun v w w' h hx => trivial, fun v w w' h hx => trivial, isV_mono, fun v w w' h hx => trivial, fun v w w' h hx => trivial, isV_mono, trivial⟩ ?each ?rest
      case each =>
       refine .cons ?_ (.cons ?_ (.cons ?_ (.cons ?_ (.cons ?_ (.cons ?_ (.cons ?_ (.cons ?_ (.cons ?_ (.cons ?_ (.cons ?_ (.cons ?_ (.cons ?_ (.cons ?_ (.nil))))))))))))))
       ·intro fa fw hx hs hb
        have s2 : fa.tmps[(2 : Nat)]? = some (.pointer (some ⟨w.heap.size, 0, none⟩)) := (hb 2 (by kernel_rfl)).trans (by rfl)
        have c0 := hx.keeps _ _ B0.out
        have c1 := hx.keeps _ _ B1.out
        have c2 := hx.keeps _ _ B2.out
        have c3 := hx.keeps _ _ B3.out
        refine .inl ⟨wanted_free rfl, fun K hK => ?_⟩
        clear hs hb hx
        go_simp
        exact hK _ _ rfl (Ext.refl _)
       ·intro fa fw hx hs hb
        have s9 : fa.tmps[(9 : Nat)]? = some (.slice A9 rn c9) := (hb 9 (by kernel_rfl)).trans (by rfl)
        refine .inl ⟨wanted_free rfl, fun K hK => ?_⟩
        clear hs hb hx
        go_simp
        exact hK _ _ rfl (Ext.refl _)
       ·intro fa fw hx hs hb
        have s12 : fa.tmps[(12 : Nat)]? = some (.int .i64 x) := (hb 12 (by kernel_rfl)).trans (by rfl)
        refine .inl ⟨wanted_free rfl, fun K hK => ?_⟩
        clear hs hb hx
        go_simp
        exact hK _ _ rfl (Ext.refl _)
       ·intro fa fw hx hs hb
        have s2 : fa.tmps[(2 : Nat)]? = some (.pointer (some ⟨w.heap.size, 0, none⟩)) := (hb 2 (by kernel_rfl)).trans (by rfl)
        refine .inl ⟨wanted_free rfl, fun K hK => ?_⟩
        clear hs hb hx
        go_simp
        exact hK _ _ rfl (Ext.refl _)
       ·intro fa fw hx hs hb
        obtain ⟨_, s40, rfl⟩ := hs 3 40 (by kernel_rfl) (by kernel_rfl)
        have c0 := hx.keeps _ _ B0.out
        refine .inl ⟨wanted_free rfl, fun K hK => ?_⟩
        clear hs hb hx
        go_simp
        exact hK _ _ rfl (Ext.refl _)
       ·intro fa fw hx hs hb
        obtain ⟨_, s39, rfl⟩ := hs 2 39 (by kernel_rfl) (by kernel_rfl)
        obtain ⟨_, s41, rfl⟩ := hs 4 41 (by kernel_rfl) (by kernel_rfl)
        refine .inl ⟨wanted_free rfl, fun K hK => ?_⟩
        clear hs hb
        go_simp
        refine (BT.out fw).mono ?_
        rintro e w' ⟨r0, rfl, ho, xq⟩
        obtain ⟨Aq, cq, rfl, -, -, -⟩ := own_sl ho
        exact hK _ _ ⟨Aq, cq, rfl, own_base ho hx.size⟩ xq
       ·intro fa fw hx hs hb
        obtain ⟨_, s37, rfl⟩ := hs 0 37 (by kernel_rfl) (by kernel_rfl)
        obtain ⟨_, s38, rfl⟩ := hs 1 38 (by kernel_rfl) (by kernel_rfl)
        obtain ⟨_, s42, A42, c42, rfl, q42⟩ := hs 5 42 (by kernel_rfl) (by kernel_rfl)
        refine .inl ⟨wanted_free rfl, fun K hK => ?_⟩
        clear hs hb
        obtain ⟨Ar, cr, er, -, hcm, hsr⟩ := own_sl q42
        injection er with er _ ec
        subst er; subst ec
        go_simp
        refine (TN.out fw A42 c42 hx hsr).mono ?_
        rintro e w' ⟨vo, vn, rfl, xq⟩
        exact hK _ _ ⟨vo, vn, rfl⟩ xq
       ·intro fa fw hx hs hb
        obtain ⟨_, s43, A43, B43, rfl⟩ := hs 6 43 (by kernel_rfl) (by kernel_rfl)
        refine .inl ⟨wanted_free rfl, fun K hK => ?_⟩
        clear hs hb
        go_simp
        exact hK _ _ ⟨A43, B43, rfl⟩ (Ext.refl _)
       ·intro fa fw hx hs hb
        obtain ⟨_, s36, A36, B36, rfl⟩ := hs 7 36 (by kernel_rfl) (by kernel_rfl)
        refine .inl ⟨wanted_free rfl, fun K hK => ?_⟩
        clear hs hb
        go_simp
        exact hK _ _ trivial (Ext.refl _)
       ·intro fa fw hx hs hb
        obtain ⟨_, s36, A36, B36, rfl⟩ := hs 7 36 (by kernel_rfl) (by kernel_rfl)
        refine .inl ⟨wanted_free rfl, fun K hK => ?_⟩
        clear hs hb
        go_simp
        exact hK _ _ trivial (Ext.refl _)
       ·intro fa fw hx hs hb
        obtain ⟨_, s36, A36, B36, rfl⟩ := hs 7 36 (by kernel_rfl) (by kernel_rfl)
        refine .inl ⟨wanted_free rfl, fun K hK => ?_⟩
        clear hs hb
        go_simp
        exact hK _ _ rfl (Ext.refl _)
       ·intro fa fw hx hs hb
        obtain ⟨v44, s44, _⟩ := hs 8 44 (by kernel_rfl) (by kernel_rfl)
        refine .inl ⟨wanted_free rfl, fun K hK => ?_⟩
        clear hs hb
        go_simp
        exact hK _ _ trivial (Ext.refl _)
       ·intro fa fw hx hs hb
        obtain ⟨v45, s45, _⟩ := hs 9 45 (by kernel_rfl) (by kernel_rfl)
        refine .inl ⟨wanted_free rfl, fun K hK => ?_⟩
        clear hs hb
        go_simp
        exact hK _ _ trivial (Ext.refl _)
       ·intro fa fw hx hs hb
        obtain ⟨_, s46, rfl⟩ := hs 10 46 (by kernel_rfl) (by kernel_rfl)
        refine .inl ⟨wanted_free rfl, fun K hK => ?_⟩
        clear hs hb hx
        go_simp
        exact hK _ _ rfl (Ext.refl _)
      case rest =>
       intro w2 hxw2
       rintro _ rfl
       rintro _ rfl
       rintro _ rfl
       rintro _ rfl
       rintro _ rfl
       rintro _ ⟨A42, c42, rfl, q42⟩
       rintro _ ⟨A43, B43, rfl⟩
       rintro _ ⟨A36, B36, rfl⟩
       rintro _ ⟨⟨v44, s44, _⟩⟩
       rintro _ ⟨⟨v45, s45, _⟩⟩
       rintro _ rfl
       rintro _ ⟨⟨v13, s13, _⟩⟩
       rintro _ ⟨⟨v14, s14, _⟩⟩
       rintro _ rfl
       simp only [putAll, List.take, Act.put, List.setIfInBounds_toArray, List.set_cons_zero, List.set_cons_succ]
       refine wpAny_done (by kernel_rfl) ?_ _
       go_wp2
       exact bodyPost_ret (v := Pr3 (.slice none 0 0) (.slice none 0 0) (I 6)) (by simp [results, Try.results16, go_sem]) rfl ⟨_, _, [], by rw [HRE.out], by rw [HRV.out]; exact OwnRows.nil _ _ _ _, by rw [HRV.out]; exact World.ownsRow_nil _ _ _ _, HX.out.trans (HE.out.trans hxw2)⟩
     | some o =>
      have hnext := hst.next hx (by rw [HMI.out]; exact htn)
      have hol2 := turnN_len htn
      rw [hol, hrl] at hol2
      have tn : ∀ Q (Ab : Option Addr) (cb : Nat), Ext wr Q → Sl Q Ab m ((bitsM x m).map I) → Calls Try.prog 44 #[netV m GA gn gc RA rn rc OA on oc, .slice A9 rn c9, .slice Ab m cb] Q fun e w' => ∃ vo vn, e = .returned (Pr3 vo vn (Bv true)) ∧ w'.ownsRow Q.heap.size 3 1 vo on (o.1.map I) ∧ w'.ownsRow Q.heap.size 3 1 vn rn (o.2.map I) ∧ Ext Q w' := fun Q Ab cb hQ hsb => by
       have htq : turnQ N r (bitsM x m) = o := by unfold turnQ; rw [htn]; rfl
       refine (turn_net_any m GA gn gc RA rn rc OA on oc N A9 rn c9 Ab m cb r (bitsM x m) Q (NN.keep hQ.keeps) (hs9.keep hQ.keeps) hsb ak).mono fun e w' ⟨vo, vn, he, ho⟩ => ⟨vo, vn, ?_, ?_, ?_, ho.2.2⟩
       ·rw [he, htn]; rfl
       ·have := ho.1; rw [htq, hol2.1] at this; exact this
       ·have := ho.2.1; rw [htq, hol2.2] at this; exact this
      have TN := Lib.hid tn; have HNX := Lib.hid hnext
      have CX := Lib.hid hcx; have HOL := Lib.hid hol2.1
      clear hnext tn htn ak NN hs9 hask bt hbx hreg hrows hst hext hx hx0 hx8 hc0 hol2
      go_wp2_with fail
      refine wp_flow3 14 0 [isV (.agg #[.int .i64 m, .slice GA gn gc, .slice RA rn rc, .slice OA on oc]), isV (.slice A9 rn c9), isV (.int .i64 x), isV (.pointer (some ⟨w.heap.size, 0, none⟩)), isV (.int .i64 m), fun v w => ∃ A c, v = .slice A m c ∧ w.ownsRow wr.heap.size 3 1 (.slice A m c) m ((bitsM x m).map I), fun v w => ∃ A c B d, v = .tuple #[.slice A on c, .slice B rn d, .bool true] ∧ w.ownsRow wr.heap.size 3 1 (.slice A on c) on (o.1.map I) ∧ w.ownsRow wr.heap.size 3 1 (.slice B rn d) rn (o.2.map I), fun v w => ∃ A c B d, v = .tuple #[.slice A on c, .slice B rn d, .bool true] ∧ w.ownsRow wr.heap.size 3 1 (.slice A on c) on (o.1.map I) ∧ w.ownsRow wr.heap.size 3 1 (.slice B rn d) rn (o.2.map I), fun v w => ∃ A c, v = .slice A on c ∧ w.ownsRow wr.heap.size 3 1 (.slice A on c) on (o.1.map I), fun v w => ∃ A c, v = .slice A rn c ∧ w.ownsRow wr.heap.size 3 1 (.slice A rn c) rn (o.2.map I), isV (.bool true), fun v w => ∃ A c, v = .slice A on c ∧ w.ownsRow wr.heap.size 3 1 (.slice A on c) on (o.1.map I), fun v w => ∃ A c, v = .slice A rn c ∧ w.ownsRow wr.heap.size 3 1 (.slice A rn c) rn (o.2.map I), isV (.bool true)] (by kernel_rfl) rfl rfl (by kernel_rfl) (by kernel_rfl) ⟨isV_mono, isV_mono, isV_mono, isV_mono, isV_mono, fun v w w' ⟨A, c, e, h⟩ hx => ⟨A, c, e, own_ext h hx⟩, fun v w w' ⟨A, c, B, d, e, h, k⟩ hx => ⟨A, c, B, d, e, own_ext h hx, own_ext k hx⟩, fun v w w' ⟨A, c, B, d, e, h, k⟩ hx => ⟨A, c, B, d, e, own_ext h hx, own_ext k hx⟩, fun v w w' ⟨A, c, e, h⟩ hx => ⟨A, c, e, own_ext h hx⟩, fun v w w' ⟨A, c, e, h⟩ hx => ⟨A, c, e, own_ext h hx⟩, isV_mono, fun v w w' ⟨A, c, e, h⟩ hx => ⟨A, c, e, own_ext h hx⟩, fun v w w' ⟨A, c, e, h⟩ hx => ⟨A, c, e, own_ext h hx⟩, isV_mono, trivial⟩ ?each ?rest
      case each =>
       refine .cons ?_ (.cons ?_ (.cons ?_ (.cons ?_ (.cons ?_ (.cons ?_ (.cons ?_ (.cons ?_ (.cons ?_ (.cons ?_ (.cons ?_ (.cons ?_ (.cons ?_ (.cons ?_ (.nil))))))))))))))
       ·intro fa fw hx hs hb
        have s2 : fa.tmps[(2 : Nat)]? = some (.pointer (some ⟨w.heap.size, 0, none⟩)) := (hb 2 (by kernel_rfl)).trans (by rfl)
        have c0 := hx.keeps _ _ B0.out
        have c1 := hx.keeps _ _ B1.out
        have c2 := hx.keeps _ _ B2.out
        have c3 := hx.keeps _ _ B3.out
        refine .inl ⟨wanted_free rfl, fun K hK => ?_⟩
        clear hs hb hx
        go_simp
        exact hK _ _ rfl (Ext.refl _)
       ·intro fa fw hx hs hb
        have s9 : fa.tmps[(9 : Nat)]? = some (.slice A9 rn c9) := (hb 9 (by kernel_rfl)).trans (by rfl)
        refine .inl ⟨wanted_free rfl, fun K hK => ?_⟩
        clear hs hb hx
        go_simp
        exact hK _ _ rfl (Ext.refl _)
       ·intro fa fw hx hs hb
        have s12 : fa.tmps[(12 : Nat)]? = some (.int .i64 x) := (hb 12 (by kernel_rfl)).trans (by rfl)
        refine .inl ⟨wanted_free rfl, fun K hK => ?_⟩
        clear hs hb hx
        go_simp
        exact hK _ _ rfl (Ext.refl _)
       ·intro fa fw hx hs hb
        have s2 : fa.tmps[(2 : Nat)]? = some (.pointer (some ⟨w.heap.size, 0, none⟩)) := (hb 2 (by kernel_rfl)).trans (by rfl)
        refine .inl ⟨wanted_free rfl, fun K hK => ?_⟩
        clear hs hb hx
        go_simp
        exact hK _ _ rfl (Ext.refl _)
       ·intro fa fw hx hs hb
        obtain ⟨_, s40, rfl⟩ := hs 3 40 (by kernel_rfl) (by kernel_rfl)
        have c0 := hx.keeps _ _ B0.out
        refine .inl ⟨wanted_free rfl, fun K hK => ?_⟩
        clear hs hb hx
        go_simp
        exact hK _ _ rfl (Ext.refl _)
       ·intro fa fw hx hs hb
        obtain ⟨_, s39, rfl⟩ := hs 2 39 (by kernel_rfl) (by kernel_rfl)
        obtain ⟨_, s41, rfl⟩ := hs 4 41 (by kernel_rfl) (by kernel_rfl)
        refine .inl ⟨wanted_free rfl, fun K hK => ?_⟩
        clear hs hb
        go_simp
        refine (BT.out fw).mono ?_
        rintro e w' ⟨r0, rfl, ho, xq⟩
        obtain ⟨Aq, cq, rfl, -, -, -⟩ := own_sl ho
        exact hK _ _ ⟨Aq, cq, rfl, own_base ho hx.size⟩ xq
       ·intro fa fw hx hs hb
        obtain ⟨_, s37, rfl⟩ := hs 0 37 (by kernel_rfl) (by kernel_rfl)
        obtain ⟨_, s38, rfl⟩ := hs 1 38 (by kernel_rfl) (by kernel_rfl)
        obtain ⟨_, s42, A42, c42, rfl, q42⟩ := hs 5 42 (by kernel_rfl) (by kernel_rfl)
        refine .inl ⟨wanted_free rfl, fun K hK => ?_⟩
        clear hs hb
        obtain ⟨Ar, cr, er, -, hcm, hsr⟩ := own_sl q42
        injection er with er _ ec
        subst er; subst ec
        go_simp
        refine (TN.out fw A42 c42 hx hsr).mono ?_
        rintro e w' ⟨vo, vn, rfl, h1, h2, xq⟩
        obtain ⟨Aq, cq, rfl, -, -, -⟩ := own_sl h1
        obtain ⟨Bq, dq, rfl, -, -, -⟩ := own_sl h2
        exact hK _ _ ⟨Aq, cq, Bq, dq, rfl, own_base h1 hx.size, own_base h2 hx.size⟩ xq
       ·intro fa fw hx hs hb
        obtain ⟨_, s43, A43, c43, B43, d43, rfl, q43, p43⟩ := hs 6 43 (by kernel_rfl) (by kernel_rfl)
        refine .inl ⟨wanted_free rfl, fun K hK => ?_⟩
        clear hs hb
        go_simp
        exact hK _ _ ⟨A43, c43, B43, d43, rfl, q43, p43⟩ (Ext.refl _)
       ·intro fa fw hx hs hb
        obtain ⟨_, s36, A36, c36, B36, d36, rfl, q36, p36⟩ := hs 7 36 (by kernel_rfl) (by kernel_rfl)
        refine .inl ⟨wanted_free rfl, fun K hK => ?_⟩
        clear hs hb
        go_simp
        exact hK _ _ ⟨A36, c36, rfl, q36⟩ (Ext.refl _)
       ·intro fa fw hx hs hb
        obtain ⟨_, s36, A36, c36, B36, d36, rfl, q36, p36⟩ := hs 7 36 (by kernel_rfl) (by kernel_rfl)
        refine .inl ⟨wanted_free rfl, fun K hK => ?_⟩
        clear hs hb
        go_simp
        exact hK _ _ ⟨B36, d36, rfl, p36⟩ (Ext.refl _)
       ·intro fa fw hx hs hb
        obtain ⟨_, s36, A36, c36, B36, d36, rfl, q36, p36⟩ := hs 7 36 (by kernel_rfl) (by kernel_rfl)
        refine .inl ⟨wanted_free rfl, fun K hK => ?_⟩
        clear hs hb
        go_simp
        exact hK _ _ rfl (Ext.refl _)
       ·intro fa fw hx hs hb
        obtain ⟨_, s44, A44, c44, rfl, q44⟩ := hs 8 44 (by kernel_rfl) (by kernel_rfl)
        refine .inl ⟨wanted_free rfl, fun K hK => ?_⟩
        clear hs hb
        go_simp
        exact hK _ _ ⟨A44, c44, rfl, q44⟩ (Ext.refl _)
       ·intro fa fw hx hs hb
        obtain ⟨_, s45, A45, c45, rfl, q45⟩ := hs 9 45 (by kernel_rfl) (by kernel_rfl)
        refine .inl ⟨wanted_free rfl, fun K hK => ?_⟩
        clear hs hb
        go_simp
        exact hK _ _ ⟨A45, c45, rfl, q45⟩ (Ext.refl _)
       ·intro fa fw hx hs hb
        obtain ⟨_, s46, rfl⟩ := hs 10 46 (by kernel_rfl) (by kernel_rfl)
        refine .inl ⟨wanted_free rfl, fun K hK => ?_⟩
        clear hs hb hx
        go_simp
        exact hK _ _ rfl (Ext.refl _)
      case rest =>
       intro w2 hxw2
       rintro _ rfl
       rintro _ rfl
       rintro _ rfl
       rintro _ rfl
       rintro _ rfl
       rintro _ ⟨A42, c42, rfl, q42⟩
       rintro _ ⟨A43, c43, B43, d43, rfl, q43, p43⟩
       rintro _ ⟨A36, c36, B36, d36, rfl, q36, p36⟩
       rintro _ ⟨A44, c44, rfl, q44⟩
       rintro _ ⟨A45, c45, rfl, q45⟩
       rintro _ rfl
       rintro _ ⟨A13, c13, rfl, q13⟩
       rintro _ ⟨A14, c14, rfl, q14⟩
       rintro _ rfl
       simp only [putAll, List.take, Act.put, List.setIfInBounds_toArray, List.set_cons_zero, List.set_cons_succ]
       refine wpAny_done (by kernel_rfl) ?_ _
       have HRW2 := HROWS.out.ext hxw2
       have HXW2 := HE.out.trans hxw2
       have q1 := own_base q13 HE.out.size
       have q2 := own_base q14 HE.out.size
       have HL60 := hl60
       go_wp2_with (at_builtin; refine wpList_push rfl (.tmp 49) (.tmp 51) 24 23 rfl tab_ints Try.underlying24 rfl (by omega) W w2 HXW2 _ rows.length vs rfl HRW2.row [.slice A13 on c13] rfl rfl rfl (by simp [Value.oneCell']) (by unfold maxLen; omega) (by omega) ?_; intro v' w3 hown3 hx3 hg3)
       go_roundw
       case rel => exact ⟨k + 1, o.2, rows ++ [o.1], vs ++ [.slice A13 on c13], by omega, by go_num, hx3, q2.kept hg3 (own_types q2 HRW2.row (by decide)), HRW2.push (by decide) (by rw [HOL.out]; exact q1) hown3 hg3, HNX.out⟩
       case measure => simp [intOf]; omega
    ·have hkn : k = n := by omega
     subst hkn
     have hrun : runFrom N (firstM N) l = some (rows, r) := by
      have := hst; rw [← hln] at this; exact this.done
     have HRE : Hid (runE N l = 0) := by unfold Hid runE; rw [if_neg (by simp [HC.out]), HMI.out, if_neg (by simp [HT.out]), hrun]; rfl
     have HRV : Hid (runV N l = (rows, r)) := by unfold Hid runV; rw [HRE.out, hrun]; rfl
     have HST := Lib.hid hst; have HE := Lib.hid hext; have HREG := Lib.hid hreg; have HROWS := Lib.hid hrows
     clear hrun hst hext hreg hrows
     go_wp2
     exact bodyPost_ret (v := Pr3 u10 u9 (I 0)) (by simp [results, Try.results16, go_sem]) rfl ⟨_, _, vs, by rw [HRE.out], by rw [HRV.out]; exact HROWS.out.base_le HX.out.size, by rw [HRV.out]; show World.ownsRow _ _ _ _ _ r.length _; rw [HST.out.len, hrl]; exact own_base HREG.out HX.out.size, HX.out.trans HE.out⟩
  ·have hnz : (timesM l m != 0) = true := by simpa using ht
   have HRE : Hid (runE N l = timesM l m) := by unfold Hid runE; rw [if_neg (by simp [HC.out]), HMI.out, if_pos (by simpa using ht)]
   have HRV : Hid (runV N l = ([], [])) := by unfold Hid runV; rw [HRE.out, if_neg (by simpa using ht)]
   go_enter Try.func16, Try.ntmps16
   go_wp2_with fail
   rw [← HW.out]
   refine (netCheck_any _ GA gn gc RA rn rc OA on oc N W HN.out).mono ?_; rintro e w1 ⟨rfl, x1⟩; rw [HC.out]
   obtain ⟨q0, q1, q2, q3⟩ := HBox.out.keep x1.keeps
   have X1 := Lib.hid x1; clear x1
   go_wp2_with fail
   refine (times_any A n c l m w1 (HL.out.keep X1.out.keeps) HNM.out hm3).mono ?_; rintro e w2 ⟨rfl, x2⟩
   have X2 := Lib.hid (X1.out.trans x2); clear x2 q0 q1 q2 q3
   go_wp2
   exact bodyPost_ret (v := Pr3 (.slice none 0 0) (.slice none 0 0) (I (timesM l m))) (by simp [results, Try.results16, go_sem]) rfl ⟨_, _, [], by rw [HRE.out], by rw [HRV.out]; exact OwnRows.nil _ _ _ _, by rw [HRV.out]; exact World.ownsRow_nil _ _ _ _, HX.out.trans X2.out⟩
 ·have hnz : (checkN N != 0) = true := by simpa using hc
  have HRE : Hid (runE N l = checkN N) := by unfold Hid runE; rw [if_pos (by simpa using hc)]
  have HRV : Hid (runV N l = ([], [])) := by unfold Hid runV; rw [HRE.out, if_neg (by simpa using hc)]
  clear hc hins
  go_enter Try.func16, Try.ntmps16
  go_wp2_with fail
  rw [← HW.out]
  refine (netCheck_any _ GA gn gc RA rn rc OA on oc N W HN.out).mono ?_; rintro e w1 ⟨rfl, x1⟩
  have X1 := Lib.hid x1; clear x1
  go_wp2
  exact bodyPost_ret (v := Pr3 (.slice none 0 0) (.slice none 0 0) (I (checkN N))) (by simp [results, Try.results16, go_sem]) rfl ⟨_, _, [], by rw [HRE.out], by rw [HRV.out]; exact OwnRows.nil _ _ _ _, by rw [HRV.out]; exact World.ownsRow_nil _ _ _ _, HX.out.trans X1.out⟩
end Go.Proofs.Ytlafiddfplhafaa
/- The two nets of the laws, as contracts. -/
namespace Go.Proofs.Ytlafiddfplhafaa
set_option linter.unusedVariables false
set_option linter.unusedSimpArgs false
open Go.RowKit
end Go.Proofs.Ytlafiddfplhafaa
