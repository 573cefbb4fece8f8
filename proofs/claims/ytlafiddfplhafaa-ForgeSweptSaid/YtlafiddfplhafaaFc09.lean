/- level.Of walked. -/
import Derived.Test.YtlafiddfplhafaaFc04
import Derived.Test.YtlafiddfplhafaaFc01
import Derived.Test.YtlafiddfplhafaaFc08
import Derived.RegionTactic
import Derived.Deep.DeepCutAuto
import Derived.Test.YtlafiddfplhafaaFc06
import Derived.Test.YtlafiddfplhafaaChecked
namespace Go.Proofs.Ytlafiddfplhafaa
set_option linter.unusedVariables false
set_option linter.unusedSimpArgs false
set_option linter.unusedVariables false
set_option linter.unusedSimpArgs false
open Go.RowKit Go.Maps
/-- The lengths of the gates' args. -/
def lensM (gs : List GateM) : List Int := gs.map fun g => (g.args.length : Int)
theorem lens_lack (gs : List GateM) (n : Nat) : lensM gs = lackM gs (List.replicate n false) := by
  unfold lensM lackM
  have h : ∀ (l : List GateM) (k : Nat), lackFrom l k (List.replicate n false) = l.map fun g => (g.args.length : Int) := by
    intro l
    induction l with
    | nil => intro k; rfl
    | cons g l ih =>
      intro k
      simp only [lackFrom, ih, List.map_cons]
      rw [onI_none]
      simp only [Bool.false_eq_true, if_false, lacksG, List.cons.injEq, and_true]
      have : (g.args.countP fun a => !onI (List.replicate n false) a) = g.args.length := List.countP_eq_length.2 fun a _ => by rw [onI_none]; rfl
      omega
  exact (h gs 0).symm
theorem modify_set {l : List Int} {i : Nat} {y : Int} (h : l[i]? = some y) : l.modify i (· - 1) = l.set i (y - 1) := by
  refine List.ext_getElem? fun j => ?_
  rw [List.getElem?_modify, List.getElem?_set]
  by_cases e : i = j
  · subst e; obtain ⟨hl, he⟩ := List.getElem?_eq_some_iff.1 h; simp [hl, he]
  · simp [e]
theorem decAll_take {L z : List Int} {q : Nat} {x y : Int} (hz : z[q]? = some x) (hy : (decAll L (z.take q))[x.toNat]? = some y) : decAll L (z.take (q + 1)) = (decAll L (z.take q)).set x.toNat (y - 1) := by
  rw [← modify_set hy]
  have hql := (List.getElem?_eq_some_iff.1 hz).1
  have e : z.take (q + 1) = z.take q ++ [x] := by
    rw [List.take_succ_eq_append_getElem hql]
    congr 2
    have := List.getElem?_eq_getElem hql
    rw [hz] at this; exact (Option.some.inj this).symm
  rw [e]; simp [decAll]
theorem decAll_bound {hi : Int} (l : List Int) : ∀ (lo : Int) (L : List Int), (∀ x ∈ L, lo ≤ x ∧ x ≤ hi) → ∀ x ∈ decAll L l, lo - l.length ≤ x ∧ x ≤ hi := by
  induction l with
  | nil => intro lo L h x hx; have := h x (by simpa [decAll] using hx); simpa using this
  | cons a l ih =>
    intro lo L h x hx
    have := ih (lo - 1) (L.modify a.toNat (· - 1)) ?_ x (by simpa [decAll] using hx)
    · simp only [List.length_cons]; omega
    · intro y hy
      obtain ⟨j, hj⟩ := List.mem_iff_getElem?.1 hy
      rw [List.getElem?_modify] at hj
      cases hL : L[j]? with
      | none => rw [hL] at hj; simp at hj
      | some z =>
        have := h z (List.mem_of_getElem? hL)
        rw [hL] at hj; split at hj <;> simp at hj <;> omega
theorem lack_bound {gs : List GateM} (h : ∀ g ∈ gs, g.args.length ≤ 16) (o : List Bool) : ∀ x ∈ lackM gs o, -1 ≤ x ∧ x ≤ 16 := by
  intro x hx
  obtain ⟨j, hj⟩ := List.mem_iff_getElem?.1 hx
  rcases Nat.lt_or_ge j gs.length with hl | hl
  · rw [lackM_at (List.getElem?_eq_getElem hl)] at hj
    have h1 := h _ (List.getElem_mem hl)
    have h2 : (gs[j].args.countP fun a => !onI o a) ≤ gs[j].args.length := List.countP_le_length
    simp only [lacksG, Option.some.injEq] at hj
    split at hj <;> omega
  · rw [List.getElem?_eq_none (by simp [lackM, lackFrom_len]; omega)] at hj; cases hj
theorem lackM_len (gs : List GateM) (o : List Bool) : (lackM gs o).length = gs.length := by simp [lackM, lackFrom_len]
theorem Aside.trans {g1 g2 : Nat} {a b c : World} (h : Aside g1 g2 a b) (k : Aside g1 g2 b c) : Aside g1 g2 a c :=
  ⟨k.os.trans h.os, k.tape.trans h.tape, k.output.trans h.output, Nat.le_trans h.size k.size, fun i hi h1 h2 => (k.block i (Nat.lt_of_lt_of_le hi h.size) h1 h2).trans (h.block i hi h1 h2)⟩
theorem Aside.grownBy {g : Nat} {a b : World} (h : Aside g g a b) : a.grownBy b (some g) := ⟨h.os, h.tape, h.output, h.size, fun i hi hne => h.block i hi (fun e => hne (by rw [e])) (fun e => hne (by rw [e]))⟩
theorem users_range {gs : List GateM} (ok : okArgs gs) {b : Int} (hb : 0 ≤ b) : ∀ x ∈ useI (usersM gs) b, 0 ≤ x ∧ x < gs.length := by
  intro x hx
  obtain ⟨i, g, hi, rfl, _⟩ := (mem_users ok hb).1 hx
  have := (List.getElem?_eq_some_iff.1 hi).1
  omega
theorem NetOK.okArgs {N : NetM} (ok : NetOK N) : okArgs N.gates := fun g hg a ha => (ok.gate hg).args a ha
/-- What Of leaves. -/
def OfPost (w : World) (o : Option (List Int)) (e : Ending) (w' : World) : Prop :=
  match o with
  | some l => ∃ v, e = .returned (Pr v (.bool true)) ∧ w'.ownsRow w.heap.size 3 1 v l.length (l.map I) ∧ Ext w w'
  | none => e = .returned (Pr (.slice none 0 0) (.bool false)) ∧ Ext w w'
set_option maxRecDepth 100000 in
set_option maxHeartbeats 4000000 in
theorem levelOf_any (i : Int) (GA : Option Addr) (gn gc : Nat) (RA : Option Addr) (rn rc : Nat) (OA : Option Addr) (on oc : Nat) (N : NetM) (w : World) (h : NetC w i GA gn gc RA rn rc OA on oc N) (ok : NetOK N) :
    Calls Try.prog 50 #[netV i GA gn gc RA rn rc OA on oc] w (OfPost w (orderM N.gates)) := by
  have hgl : N.gates.length = gn := h.gates.1
  have hg200 : gn ≤ 200 := by have := ok.gl; omega
  generalize hM : orderM N.gates = M
  have HM := Lib.hid hM; clear hM
  obtain ⟨W, hW⟩ : ∃ W, W = w.alloc (.cells #[I i, .slice GA gn gc, .slice RA rn rc, .slice OA on oc] 39) := ⟨_, rfl⟩
  have hxW : Ext w W := by rw [hW]; exact (Ext.refl _).alloc _
  have hbox : NetBox W w.heap.size i GA gn gc RA rn rc OA on oc := by rw [hW]; exact NetBox.new w i GA gn gc RA rn rc OA on oc _
  have hsz : W.heap.size = w.heap.size + 1 := by rw [hW]; simp
  have HN := Lib.hid (h.keep hxW.keeps); have HBox := Lib.hid hbox; have HW := Lib.hid hW; have HX := Lib.hid hxW; have HOK := Lib.hid ok
  have hmk := fun Q => run_make1 (P := Try.prog) 23 3 tab_int' Try.underlying23 rfl gn (by omega) (by omega) Q
  have hmm := @run_makeMap Try.prog
  have hown0 : (W.alloc (.cells (zeros (.int .i64 0) gn) 3)).ownsRow W.heap.size 3 1 (.slice (some ⟨w.heap.size + 1, 0, none⟩) gn gn) gn ((mixV (lensM N.gates) 0 gn).map I) := by
    have := own_made W 3 (.int .i64 0) gn W.heap.size (Nat.le_refl _) (by unfold maxLen; omega)
    rw [show (mixV (lensM N.gates) 0 gn).map I = List.replicate gn (.int .i64 0) from by simp [mixV]]
    rw [← hsz]; exact this
  obtain ⟨W2, hW2⟩ : ∃ W2, W2 = (W.alloc (.cells (zeros (.int .i64 0) gn) 3)).alloc (.map #[] 0) := ⟨_, rfl⟩
  have hgrp0 : Grp W2 (w.heap.size + 1 + 1 + 1) (w.heap.size + 1 + 1) 0 (fun _ => []) := by
    have := Grp.made (W.alloc (.cells (zeros (.int .i64 0) gn) 3))
    simp only [World.size_alloc, hsz] at this
    rw [hW2]; exact this
  have hlack0 : W2.ownsRow W.heap.size 3 1 (.slice (some ⟨w.heap.size + 1, 0, none⟩) gn gn) gn ((mixV (lensM N.gates) 0 gn).map I) := by rw [hW2]; exact own_ext hown0 ((Ext.refl _).alloc _)
  have hx2 : Ext W W2 := by rw [hW2]; exact ((Ext.refl _).alloc _).alloc _
  have hs2 : W2.heap.size = w.heap.size + 1 + 1 + 1 := by rw [hW2]; simp [hsz]
  have HSZ := Lib.hid hsz; have HW2 := Lib.hid hW2; have HG0 := Lib.hid hgrp0; have HL0 := Lib.hid hlack0; have HX2 := Lib.hid hx2; have HS2 := Lib.hid hs2
  clear h hW hxW hbox ok hsz hown0 hW2 hgrp0 hlack0 hx2 hs2
  go_enter Try.func50, Try.ntmps50
  go_wp2_with fail
  rw [← HW.out]
  obtain ⟨q0, q1, q2, q3⟩ := HBox.out
  go_wp2_with fail
  rw [← HW2.out]
  clear hmk q0 q1 q2 q3
  go_loopw [24] (fun j wr => ∃ (k : Nat) (U : List (List Int)), k ≤ gn ∧ j = .int .i64 k ∧ Ext W wr ∧ w.heap.size + 1 + 1 + 1 ≤ wr.heap.size ∧ wr.ownsRow W.heap.size 3 1 (.slice (some ⟨w.heap.size + 1, 0, none⟩) gn gn) gn ((mixV (lensM N.gates) k gn).map I) ∧ Grp wr (w.heap.size + 1 + 1 + 1) (w.heap.size + 1 + 1) (16 * k) (useI U) ∧ usersFrom (N.gates.drop k) k U = usersM N.gates ∧ U.length = gn) (fun j _ => gn - (intOf j).toNat)
  case atStart =>
    refine ⟨0, List.replicate gn [], Nat.zero_le _, rfl, HX2.out, Nat.le_of_eq HS2.out.symm, HL0.out, HG0.out.congr fun j hj => ?_, ?_, by simp⟩
    · unfold useI; rw [List.getElem?_replicate]; split <;> rfl
    · unfold usersM; rw [HN.out.gates.1]; rfl
  case round =>
    obtain ⟨k, U, hk, rfl, hext, hsr, hv, hgr, hM, hUl⟩ := hrel
    by_cases hlt : k < gn
    · obtain ⟨b, off, A', m, c', g, rfl, g0, g1, g2, hs, hmc, hcm, hd, hgk⟩ := HN.out.gates.next hlt
      have hgm : g ∈ N.gates := List.mem_of_getElem? hgk
      have hgr' := HOK.out.gate hgm
      rw [HN.out.gates.1] at hgr'
      have c0 := hext.keeps _ _ g0; have c1 := hext.keeps _ _ g1; have c2 := hext.keeps _ _ g2
      rw [hd] at hM
      have hml := hs.len
      have hm16 : m ≤ 16 := by have := hgr'.al; omega
      have hx5 := hext.alloc (.cells #[I g.kind, I g.num, .slice A' m c'] 95)
      have hv5 := own_ext hv ((Ext.refl wr).alloc (.cells #[I g.kind, I g.num, .slice A' m c'] 95))
      have hgr5 := hgr.ext ((Ext.refl wr).alloc (.cells #[I g.kind, I g.num, .slice A' m c'] 95))
      have hs5 : w.heap.size + 1 + 1 + 1 < (wr.alloc (.cells #[I g.kind, I g.num, .slice A' m c'] 95)).heap.size := by simp; omega
      have z2 : (wr.alloc (.cells #[I g.kind, I g.num, .slice A' m c'] 95)).cell? ⟨wr.heap.size, 2, none⟩ = some (.slice A' m c') := by rw [World.cell?_alloc_new]; rfl
      have HM := Lib.hid hM; have HS := Lib.hid hs; have HGR := Lib.hid hgr'; have HUL := Lib.hid hUl; have HGK := Lib.hid hgk; have HSR := Lib.hid hsr
      have HX5 := Lib.hid hx5; have HV5 := Lib.hid hv5; have HG5 := Lib.hid hgr5; have HS5 := Lib.hid hs5; have Z2 := Lib.hid z2; have HML := Lib.hid hml
      clear hM hs hv hgr hgr' hext g0 g1 g2 hd hgk hgm hmc hcm hUl hx5 hv5 hgr5 hs5 z2 hsr hml
      go_upto_region 6 with fail
      generalize wr.alloc (.cells #[I g.kind, I g.num, .slice A' m c'] 95) = w5 at *
      have z2 := Z2.out
      obtain ⟨⟨u, hu, hcv⟩, hfv, -⟩ := own_at HV5.out hlt
      have hsv := (HV5.out.stored k (I m)).1
      rw [← List.map_set, mixV_set hlt (show (lensM N.gates)[k]? = some (m : Int) from by unfold lensM; rw [List.getElem?_map, HGK.out, Option.map_some, HML.out])] at hsv
      have hsr := HSR.out
      have z6 : (w5.setCell ⟨w.heap.size + 1, k, none⟩ (I m)).cell? ⟨wr.heap.size, 2, none⟩ = some (.slice A' m c') := (World.cell?_setCell_other _ _ _ _ (by intro e; injection e; omega)).trans z2
      have hx6 : Ext W (w5.setCell ⟨w.heap.size + 1, k, none⟩ (I m)) := HX5.out.setCell (by show W.heap.size ≤ w.heap.size + 1; exact Nat.le_of_eq HSZ.out) _
      have hg6 := HG5.out.set (w.heap.size + 1) k (I m) (by omega)
      have hs6 : w.heap.size + 1 + 1 + 1 < (w5.setCell ⟨w.heap.size + 1, k, none⟩ (I m)).heap.size := by simpa using HS5.out
      have HSV := Lib.hid hsv; have HX6 := Lib.hid hx6; have HG6 := Lib.hid hg6; have HS6 := Lib.hid hs6; have Z6 := Lib.hid z6
      clear hsv hx6 hg6 hs6 z6 hu c0 c1 c2 hsr HX5 HV5 HG5 HS5 Z2
      go_upto_region 7 with fail
      generalize w5.setCell ⟨w.heap.size + 1, k, none⟩ (I m) = w6 at *
      have z6 := Z6.out
      clear z2 hcv hfv
      go_wp2_with fail
      go_loopw [38] (fun j wr2 => ∃ (q : Nat) (U2 : List (List Int)), q ≤ m ∧ j = .int .i64 q ∧ Ext W wr2 ∧ w.heap.size + 1 + 1 + 1 ≤ wr2.heap.size ∧ wr2.ownsRow W.heap.size 3 1 (.slice (some ⟨w.heap.size + 1, 0, none⟩) gn gn) gn ((mixV (lensM N.gates) (k + 1) gn).map I) ∧ Grp wr2 (w.heap.size + 1 + 1 + 1) (w.heap.size + 1 + 1) (16 * k + q) (useI U2) ∧ addUses U2 k (g.args.drop q) = addUses U k g.args ∧ U2.length = gn) (fun j _ => m - (intOf j).toNat)
      case atStart => exact ⟨0, U, Nat.zero_le _, rfl, HX6.out, Nat.le_of_lt HS6.out, HSV.out, HG6.out, rfl, HUL.out⟩
      case round =>
        obtain ⟨q, U2, hq, rfl, hext2, hsr2, hv2, hgr2, hM2, hUl2⟩ := hrel
        by_cases hltq : q < m
        · obtain ⟨b2, off2, x, rfl, hc0, hdq⟩ := HS.out.next hltq
          have hxm : x ∈ g.args := by
            have : x ∈ g.args.drop q := by rw [hdq]; simp
            exact List.mem_of_mem_drop this
          obtain ⟨hx0, hx1⟩ := HGR.out.args x hxm
          have hc := hext2.keeps _ _ hc0
          rw [hdq] at hM2
          obtain ⟨i0, hi0, hz0, hz1, hz2⟩ := info_parts tab_int'
          have hwf : (Lit.int .i64 x).wf = true := WalkArith.wf_i64 (by omega)
          have hwk : (Lit.int .i64 (k : Int)).wf = true := WalkArith.wf_i64 (by omega)
          have HM2 := Lib.hid hM2; have HX2' := Lib.hid hext2; have HSR2 := Lib.hid hsr2; have HV2 := Lib.hid hv2; have HG2 := Lib.hid hgr2; have HU2 := Lib.hid hUl2
          clear hM2 hext2 hv2 hgr2 hc0 hdq hxm hUl2 z6
          go_wp2_with (first
            | (refine wpList_lookupG rfl _ _ rfl _ _ _ _ rfl HG2.out (by unfold maxLen; omega) x rfl hx0 hwf ?_; intro v hoi hzl hback)
            | (at_builtin; refine wpList_append_own_at _ rfl (.tmp 46) (.tmp 48) 23 rfl (w.heap.size + 1 + 1 + 1) 3 i0 (.int .i64 0) 1 8 Try.underlying23 hi0 hz0 hz1 hz2 rfl (by decide) _ (useI U2 x).length ((useI U2 x).map I) rfl (hoi.1.alloc _) ⟨wr.heap.size, 0, none⟩ 1 1 [I k] rfl rfl (fun j u hu => by rw [add_zero, World.cell?_alloc_new]; simpa using hu) (by simp [Value.oneCell']) (by unfold maxLen; omega) (by omega) (by first | (simp; omega) | simp | omega) ?_; intro v' w1 hown' hgrow hnil hloc)
            | (refine hback w1 w1 v' (k : Int) _ _ _ _ _ _ _ _ rfl rfl rfl rfl rfl ((World.grownBy_alloc _ _ _).trans hgrow) (hoi.appended hown' hwk) (hloc.imp id (fun h => ⟨_, h, by simp⟩)) ?_; intro w2 hown2 hgr2)
            | go_in)
          have hall := (World.grownBy_alloc wr _ _).trans hgrow
          have hx3 := HX2'.out.groups hoi hall hgr2 HX2'.out.size (by rw [HSZ.out]; omega) (by rw [HSZ.out]; omega)
          have hv3 := (HV2.out.kept hall (.inr (fun e => by have := (hoi.1.lt (w.heap.size + 1) e.symm).1; omega))).kept hgr2 (.inr (fun e => by have e : w.heap.size + 1 = w.heap.size + 1 + 1 := Option.some.inj e; omega))
          have hU3 : (U2.modify x.toNat (· ++ [(k : Int)])).length = gn := by simpa using HU2.out
          have hg3 := (hown2.congr (g := useI (U2.modify x.toNat (· ++ [(k : Int)]))) fun j hj => by
            rw [useI_modify U2 x j k hx0 hj]
            by_cases e : j = x
            · subst e; rw [if_pos rfl, if_pos ⟨rfl, by rw [HU2.out]; exact hx1⟩]
            · rw [if_neg e, if_neg (fun q => e q.1.symm)])
          have hs3 := Nat.le_trans hsr2 (Nat.le_trans hall.size hgr2.size)
          clear hgrow hnil hloc hown' hback
          go_roundw
          case rel => exact ⟨q + 1, _, by omega, by go_num, hx3, hs3, hv3, by rw [← Nat.add_assoc]; exact hg3, HM2.out, hU3⟩
          case measure => simp [intOf]; omega
        · have hqm : q = m := by omega
          subst hqm
          rw [HS.out.drop_end hltq] at hM2
          have HM2 := Lib.hid hM2; have HX2' := Lib.hid hext2; have HSR2 := Lib.hid hsr2; have HV2 := Lib.hid hv2; have HG2 := Lib.hid hgr2; have HU2 := Lib.hid hUl2
          clear hM2 hext2 hv2 hgr2 hUl2 hltq hq z6 hsr2
          go_wp2
          go_roundw
          case rel => exact ⟨k + 1, U2, by omega, by go_num, HX2'.out, HSR2.out, HV2.out, HG2.out.more (by omega), by rw [← HM.out, show U2 = addUses U k g.args from HM2.out]; rfl, HU2.out⟩
          case measure => simp [intOf]; omega
    · have hkn : k = gn := by omega
      subst hkn
      rw [HN.out.gates.drop_end hlt] at hM
      have hU : U = usersM N.gates := hM
      subst hU
      rw [mixV_end (by simp [lensM, hgl]), lens_lack N.gates k] at hv
      have q0 := (HBox.out.keep hext.keeps)
      obtain ⟨q0, q1, q2, q3⟩ := q0
      have HX1 := Lib.hid hext; have HV1 := Lib.hid hv; have HG1 := Lib.hid hgr; have HS1 := Lib.hid hsr
      clear hM hext hv hgr hsr hlt hk hUl
      obtain ⟨w1, hw1⟩ : ∃ q, q = wr := ⟨_, rfl⟩
      subst hw1
      go_wp2_with fail
      clear q0 q1 q2 q3
      go_loopw [10, 55] (fun s j wr2 => ∃ (k2 : Nat) (o : List Bool) (out : List Int), k2 ≤ k ∧ j = .int .i64 k2 ∧ Aside (w.heap.size + 1) (w.heap.size + 1) w1 wr2 ∧ wr2.ownsRow W.heap.size 3 1 (.slice (some ⟨w.heap.size + 1, 0, none⟩) k k) k ((lackM N.gates o).map I) ∧ wr2.ownsRow w1.heap.size 3 1 s k2 (out.map I) ∧ o.length = k ∧ out.length = k2 ∧ ClosedD N.gates o ∧ orderFrom N.gates (k - k2) o out = M) (fun _ j _ => k - (intOf j).toNat)
      case atStart => exact ⟨0, List.replicate k false, [], Nat.zero_le _, rfl, Aside.refl _ _ _, HV1.out, World.ownsRow_nil _ _ _ _, by simp, rfl, closed_none _ _, by have := HM.out; unfold orderM at this; rw [hgl] at this; exact this⟩
      case round =>
        obtain ⟨k2, o, out, hk2, rfl, hoff, hv2, hs2, hol, houl, hcl, hO⟩ := hrel
        by_cases hlt2 : k2 < k
        · rw [show k - k2 = (k - (k2 + 1)) + 1 from by omega, orderFrom] at hO
          have hz := zeroAt_lackM N.gates o
          have hLl := lackM_len N.gates o
          rw [hgl] at hLl
          have HOFF := Lib.hid hoff; have HV2 := Lib.hid hv2; have HS2 := Lib.hid hs2; have HOL := Lib.hid hol; have HOUL := Lib.hid houl; have HCL := Lib.hid hcl; have HO := Lib.hid hO; have HZ := Lib.hid hz; have HLL := Lib.hid hLl
          clear hoff hv2 hs2 hol houl hcl hO hz hLl
          obtain ⟨wA, hwA⟩ : ∃ q, q = wr := ⟨_, rfl⟩
          subst hwA
          go_wp2_with fail
          go_loopw [11, 59] (fun nx j wr3 => ∃ j2 : Nat, j2 ≤ k ∧ j = .int .i64 j2 ∧ nx = .int .i64 (-1) ∧ wr3 = wA ∧ zeroAt ((lackM N.gates o).drop j2) j2 = zeroAt (lackM N.gates o) 0) (fun _ j _ => k - (intOf j).toNat)
          case atStart => exact ⟨0, Nat.zero_le _, rfl, rfl, rfl, rfl⟩
          case round =>
            obtain ⟨j2, hj2, rfl, rfl, rfl, hZ2⟩ := hrel
            by_cases hltj : j2 < k
            · have hjl : j2 < (lackM N.gates o).length := by rw [HLL.out]; exact hltj
              have hxg := List.getElem?_eq_getElem hjl
              generalize (lackM N.gates o)[j2] = x at hxg
              have hdx : (lackM N.gates o).drop j2 = x :: (lackM N.gates o).drop (j2 + 1) := by
                rw [List.drop_eq_getElem_cons hjl]; congr 1
                rw [List.getElem?_eq_getElem hjl] at hxg; exact Option.some.inj hxg
              rw [hdx, zeroAt] at hZ2
              obtain ⟨⟨u, hu, hcv⟩, hfv, -⟩ := own_at HV2.out hltj
              rw [List.getElem?_map, hxg] at hu
              obtain rfl : u = I x := by simpa using hu.symm
              by_cases hx0 : x = 0
              · subst hx0
                rw [if_pos rfl] at hZ2
                have hrd : readyM N.gates o = (j2 : Int) := by rw [← HZ.out]; exact hZ2.symm
                have hO' := HO.out
                rw [hrd, if_neg (by omega)] at hO'
                obtain ⟨g, hgj, hoff0, had⟩ : ∃ g, N.gates[j2]? = some g ∧ onI o j2 = false ∧ argsDone o g = true := by
                  rcases readyM_spec N.gates o with e | ⟨j, g, e1, e2, e3, e4⟩
                  · omega
                  · have : j = j2 := by omega
                    subst this; exact ⟨g, e2, e3, e4⟩
                have hsetv := (HV2.out.stored j2 (I (-1))).1
                rw [← List.map_set] at hsetv
                have hgl1 : w.heap.size + 1 < w1.heap.size := by have := HS1.out; omega
                have hoffB := HOFF.out.set1 j2 (I (-1))
                have hsB := (HS2.out.kept (grownBy_set wr (w.heap.size + 1) j2 (I (-1))) (by
                  cases hb : u10.ownBlock with
                  | none => exact .inl rfl
                  | some b => exact .inr (fun e => by have := (HS2.out.lt b hb).1; have e : b = w.heap.size + 1 := Option.some.inj e; omega)))
                have hone : onI o j2 = false := hoff0
                have HZ2 := Lib.hid hZ2; have HRD := Lib.hid hrd; have HO' := Lib.hid hO'; have HGJ := Lib.hid hgj; have HOFF0 := Lib.hid hoff0; have HAD := Lib.hid had
                have HSET := Lib.hid hsetv; have HOB := Lib.hid hoffB; have HSB := Lib.hid hsB; have HGL1 := Lib.hid hgl1
                clear hZ2 hrd hO' hgj hoff0 had hsetv hoffB hsB hxg hdx hu hjl hgl1 hone
                obtain ⟨i0, hi0, hz0, hz1, hz2⟩ := info_parts tab_int'
                go_upto_region 26 with fail
                generalize wr.setCell ⟨w.heap.size + 1, j2, none⟩ (I (-1)) = wB at *
                clear hcv hfv
                go_upto_region 27 with (at_builtin; refine wpList_append_own_at _ rfl (.tmp 73) (.tmp 75) 23 rfl w1.heap.size 3 i0 (.int .i64 0) 1 8 Try.underlying23 hi0 hz0 hz1 hz2 rfl (by decide) _ k2 (out.map I) rfl (HSB.out.alloc _) ⟨wB.heap.size, 0, none⟩ 1 1 [I j2] rfl rfl (fun j u hu => by rw [add_zero, World.cell?_alloc_new]; simpa using hu) (by simp [Value.oneCell']) (by unfold maxLen; omega) (by omega) (by have := HOB.out.size; simp; omega) ?_; intro vo wC hownC hgrC hnilC hlocC)
                have hoffC : Aside (w.heap.size + 1) (w.heap.size + 1) w1 wC := (HOB.out.more ((Ext.refl wB).alloc _)).grown hgrC (fun b hb => .inr (HSB.out.lt b hb).1)
                have hvC := (HSET.out.alloc (.cells #[I j2] 3)).kept hgrC (.inr (fun e => by have := (HSB.out.lt (w.heap.size + 1) e.symm).1; have := HGL1.out; omega))
                have hgC := HG1.out.agree (w' := wC) (fun b h1 h2 => hoffC.block b h2 (by omega) (by omega))
                have HOC := Lib.hid hoffC; have HVC := Lib.hid hvC; have HGC := Lib.hid hgC; have HOWN := Lib.hid hownC
                have hwj : (Lit.int .i64 (j2 : Int)).wf = true := WalkArith.wf_i64 (by omega)
                clear hoffC hvC hgC hownC hgrC hnilC hlocC
                go_wp2_with (first
                  | (refine wpList_lookupG rfl _ _ rfl _ _ _ _ rfl HGC.out (by unfold maxLen; omega) j2 rfl (by omega) hwj ?_; intro v hoi hzl hback; clear hback; obtain ⟨VA, vc, rfl, hvc, hvm, hvs⟩ := own_sl hoi.1; unfold maxLen at hvm)
                  | go_in)
                have hva : ∀ p, VA = some p → p.block ≠ w.heap.size + 1 ∧ p.block ≠ w.heap.size + 1 := fun p e => by
                  subst e
                  have := (hoi.1.lt p.block (by obtain ⟨pb, po, ps⟩ := p; rfl)).1
                  omega
                have HVS := Lib.hid hvs; have HVA := Lib.hid hva
                have hzg := users_range HOK.out.okArgs (b := (j2 : Int)) (by omega)
                rw [hgl] at hzg
                have HZG := Lib.hid hzg
                have hlb : ∀ x ∈ (lackM N.gates o).set j2 (-1), -1 ≤ x ∧ x ≤ 16 := fun x hx => by
                  rcases List.mem_or_eq_of_mem_set hx with h1 | h1
                  · exact lack_bound (fun g' hg' => HOK.out.al g' hg') o x h1
                  · omega
                have HLB := Lib.hid hlb
                clear hlb
                clear hvs hva hzg hoi hvc
                generalize hZ : useI (usersM N.gates) (j2 : Int) = Z at *
                have HZE := Lib.hid hZ
                generalize hL0 : (lackM N.gates o).set j2 (-1) = L0 at *
                have HL0E := Lib.hid hL0
                clear hZ hL0
                go_loopw [81] (fun j wr4 => ∃ q : Nat, q ≤ Z.length ∧ j = .int .i64 q ∧ Aside (w.heap.size + 1) (w.heap.size + 1) wC wr4 ∧ wr4.ownsRow W.heap.size 3 1 (.slice (some ⟨w.heap.size + 1, 0, none⟩) k k) k ((decAll L0 (Z.take q)).map I)) (fun j _ => Z.length - (intOf j).toNat)
                case atStart => exact ⟨0, Nat.zero_le _, rfl, Aside.refl _ _ _, HVC.out⟩
                case round =>
                  obtain ⟨q, hq, rfl, hoff4, hv4⟩ := hrel
                  by_cases hltq : q < Z.length
                  · obtain ⟨b3, off3, x, rfl, hc3, hx3⟩ := (HVS.out.aside hoff4 HVA.out).at_ hltq
                    obtain ⟨hx0, hx1⟩ := HZG.out x (List.mem_of_getElem? hx3)
                    obtain ⟨a, rfl⟩ : ∃ a : Nat, x = a := ⟨x.toNat, by omega⟩
                    have ha : a < k := by omega
                    obtain ⟨⟨u, hu, hcv⟩, hfv, -⟩ := own_at hv4 ha
                    rw [List.getElem?_map] at hu
                    obtain ⟨y, hy, rfl⟩ : ∃ y, (decAll L0 (Z.take q))[a]? = some y ∧ u = I y := by
                      cases hz : (decAll L0 (Z.take q))[a]? with
                      | none => rw [hz] at hu; cases hu
                      | some y => rw [hz] at hu; exact ⟨y, rfl, by simpa using hu.symm⟩
                    have hyb := decAll_bound (Z.take q) (-1) L0 HLB.out y (List.mem_of_getElem? hy)
                    have hzl' : (Z.take q).length ≤ 3200 := by simp; omega
                    have hst4 := (hv4.stored a (I (y - 1))).1
                    rw [← List.map_set, ← show ((a : Int)).toNat = a from Int.toNat_natCast a, ← decAll_take hx3 (by rw [Int.toNat_natCast]; exact hy)] at hst4
                    rw [Int.toNat_natCast] at hst4
                    have hof4 := hoff4.set1 a (I (y - 1))
                    have HST4 := Lib.hid hst4; have HOF4 := Lib.hid hof4
                    clear hst4 hof4 hoff4 hv4 hu hx3 hy
                    go_wp2
                    go_roundw
                    case rel => exact ⟨q + 1, by omega, by go_num, HOF4.out, HST4.out⟩
                    case measure => simp [intOf]; omega
                  · have hqz : q = Z.length := by omega
                    subst hqz
                    rw [List.take_length] at hv4
                    have hfin : decAll L0 Z = lackM N.gates (o.set j2 true) := by
                      rw [← HL0E.out, ← HZE.out]
                      exact lack_step HOK.out.okArgs (by rw [HOL.out, hgl]) HGJ.out HOFF0.out HAD.out HCL.out
                    rw [hfin] at hv4
                    have hO3 := HO'.out
                    rw [Int.toNat_natCast] at hO3
                    have hol3 : (o.set j2 true).length = k := by simpa using HOL.out
                    have hcl3 := closed_step HCL.out (by rw [HOL.out, hgl]) HGJ.out HAD.out
                    have hown3 := HOWN.out.kept hoff4.grownBy (by
                      cases hb : vo.ownBlock with
                      | none => exact .inl rfl
                      | some b => exact .inr (fun e => by have := (HOWN.out.lt b hb).1; have := HGL1.out; have e : b = w.heap.size + 1 := Option.some.inj e; omega))
                    have hoff5 := HOC.out.trans hoff4
                    have houl3 : (out ++ [(j2 : Int)]).length = k2 + 1 := by have := HOUL.out; simp; omega
                    have HV5 := Lib.hid hv4; have HO3 := Lib.hid hO3; have HOL3 := Lib.hid hol3; have HCL3 := Lib.hid hcl3; have HOWN3 := Lib.hid hown3; have HOFF5 := Lib.hid hoff5; have HOUL3 := Lib.hid houl3
                    clear hv4 hfin hO3 hol3 hcl3 hown3 hoff5 hoff4 hltq hq houl3
                    go_wp2
                    go_roundw
                    case rel => exact ⟨k2 + 1, o.set j2 true, out ++ [(j2 : Int)], by omega, by go_num, HOFF5.out, HV5.out, by simpa using HOWN3.out, HOL3.out, HOUL3.out, HCL3.out, HO3.out⟩
                    case measure => simp [intOf]; omega
              · have HX0 := Lib.hid hx0
                rw [if_neg hx0] at hZ2
                have hb : (x == 0) = false := by simpa using hx0
                have HZ2 := Lib.hid hZ2
                clear hZ2 hx0 hu hdx hxg hjl
                go_wp2
                go_roundw
                case rel => exact ⟨j2 + 1, by omega, by go_num, by first | rfl | trivial, by first | rfl | trivial, by rw [← HZ2.out]; simp⟩
                case measure => simp [intOf]; omega
            · rw [List.drop_eq_nil_of_le (by rw [HLL.out]; omega), zeroAt] at hZ2
              have hO' := HO.out
              rw [show readyM N.gates o = -1 from by rw [← HZ.out]; exact hZ2.symm, if_pos (by omega)] at hO'
              subst hO'
              have HXR := Lib.hid (HOFF.out.ext HX1.out (Nat.le_of_eq HSZ.out) (Nat.le_of_eq HSZ.out))
              clear hZ2
              go_wp2
              go_ret2
              exact ⟨rfl, HX.out.trans HXR.out⟩
        · have hkk : k2 = k := by omega
          subst hkk
          rw [Nat.sub_self, orderFrom] at hO
          subst hO
          have HXR := Lib.hid (hoff.ext HX1.out (Nat.le_of_eq HSZ.out) (Nat.le_of_eq HSZ.out))
          have HS2 := Lib.hid hs2; have HOUL := Lib.hid houl
          have hws : w.heap.size ≤ w1.heap.size := (HX.out.trans HX1.out).size
          clear hoff hv2 hs2 hol houl hcl
          go_wp2
          go_ret2
          exact ⟨_, rfl, by rw [HOUL.out]; exact own_base HS2.out hws, HX.out.trans HXR.out⟩
end Go.Proofs.Ytlafiddfplhafaa
/- net.First, net.Begin, R.BeginOf, net.Nexts, R.nexts walked. -/
namespace Go.Proofs.Ytlafiddfplhafaa
set_option linter.unusedVariables false
set_option linter.unusedSimpArgs false
open Go.RowKit
set_option maxHeartbeats 1000000 in
theorem first_any (i : Int) (GA : Option Addr) (gn gc : Nat) (RA : Option Addr) (rn rc : Nat) (OA : Option Addr) (on oc : Nat) (N : NetM) (w : World)
    (h : NetC w i GA gn gc RA rn rc OA on oc N) (hr : rn ≤ 20) :
    Calls Try.prog 43 #[netV i GA gn gc RA rn rc OA on oc] w fun e w' => ∃ v, e = .returned v ∧ w'.ownsRow w.heap.size 3 1 v rn ((firstM N).map I) ∧ Ext w w' := by
  have H := Lib.hid h.regs; clear h
  go_enter Try.func43, Try.ntmps43
  go_wp2
  go_loopw [3, 10] (fun v j wr => ∃ (k : Nat) (zs : List Int), k ≤ rn ∧ j = .int .i64 k ∧ Ext w wr ∧ wr.ownsRow w.heap.size 3 1 v k (zs.map I) ∧ zs ++ firstM { N with regs := N.regs.drop k } = firstM N) (fun _ j _ => rn - (intOf j).toNat)
  case atStart => exact ⟨0, [], Nat.zero_le _, rfl, (Ext.refl _).alloc _, World.ownsRow_nil _ _ _ _, rfl⟩
  case round =>
    obtain ⟨k, zs, hk, rfl, hext, hown, hM⟩ := hrel
    by_cases hlt : k < rn
    · obtain ⟨b, off, r, rfl, g0, g1, hd, -⟩ := H.out.next hlt
      have c0 := hext.keeps _ _ g0; have c1 := hext.keeps _ _ g1
      simp only [firstM, hd, List.map_cons] at hM
      have HM := Lib.hid hM
      have HO2 := Lib.hid (own_ext hown ((Ext.refl _).alloc (.cells #[Bv r.fst, I r.next] 79)))
      clear hM hd g0 g1 hown
      obtain ⟨rb, rx⟩ := r
      cases rb
      · go_wp2_with (at_builtin; refine wpList_pushB rfl (.tmp 16) (.tmp 18) 23 3 rfl tab_int' Try.underlying23 rfl (by omega) w _ (hext.alloc (.cells #[Bv false, I rx] 79)) _ k _ rfl HO2.out [I 0] rfl rfl _ rfl (by simp) (by simp [Value.oneCell']) (by unfold maxLen; omega) (by omega) ?_; intro v' w2 hown2 hx3 _)
        go_roundw
        case rel => exact ⟨k + 1, zs ++ [0], by omega, by go_num, hx3, by simpa using hown2, by rw [show firstM N = _ from HM.out.symm]; simp [firstM]⟩
        case measure => simp [intOf]; omega
      · go_wp2_with (at_builtin; refine wpList_pushB rfl (.tmp 16) (.tmp 18) 23 3 rfl tab_int' Try.underlying23 rfl (by omega) w _ (hext.alloc (.cells #[Bv true, I rx] 79)) _ k _ rfl HO2.out [I 1] rfl rfl _ rfl (by simp) (by simp [Value.oneCell']) (by unfold maxLen; omega) (by omega) ?_; intro v' w2 hown2 hx3 _)
        go_roundw
        case rel => exact ⟨k + 1, zs ++ [1], by omega, by go_num, hx3, by simpa using hown2, by rw [show firstM N = _ from HM.out.symm]; simp [firstM]⟩
        case measure => simp [intOf]; omega
    · have hkn : k = rn := by omega
      subst hkn
      have hz : zs = firstM N := by rw [← hM]; simp [firstM, H.out.drop_end hlt]
      subst hz
      have HO := Lib.hid hown
      clear hM hown
      go_wp2
      go_ret
      exact ⟨_, rfl, HO.out, hext⟩
end Go.Proofs.Ytlafiddfplhafaa
/- Package prog walked. -/
namespace Go.Proofs.Ytlafiddfplhafaa
set_option linter.unusedVariables false
set_option linter.unusedSimpArgs false
open Go.RowKit
abbrev PK (x : PNode) : Value := I x.kind
abbrev PS (x : PNode) : Value := I x.sig
/-- A list of nodes, as a slice. -/
abbrev SlN := Sl2 PK PS
theorem two_any (k : Int) (w : World) : Calls Try.prog 80 #[I k] w fun e w' => e = .returned (.bool (two k)) ∧ w = w' := by
  go_enter Try.func80, Try.ntmps80
  go_wp2
  go_ret; exact ⟨ret_bool rfl, rfl⟩
theorem wait_any (k : Int) (w : World) : Calls Try.prog 27 #[I k] w fun e w' => e = .returned (.bool (waitK k)) ∧ w = w' := by
  go_enter Try.func27, Try.ntmps27
  go_wp2
  all_goals go_ret
  all_goals exact ⟨ret_bool (by rw [Bool.eq_iff_iff]; simp_all [waitK]), rfl⟩
theorem signs_any (k : Int) (w : World) : Calls Try.prog 41 #[I k] w fun e w' => e = .returned (I (signsM k)) ∧ w = w' := by
  generalize hM : signsM k = M
  unfold signsM at hM
  have HM := Lib.hid hM; clear hM
  go_enter Try.func41, Try.ntmps41
  go_wp2
  all_goals go_ret
  all_goals exact ⟨ret_int (by rw [← HM.out]; simp_all), rfl⟩
theorem one_any (A : Option Addr) (n c : Nat) (p : List PNode) (k : Int) (w : World) (h : SlN w A n p) (hn : n ≤ 65536) (hk : k ≤ 65536) :
    Calls Try.prog 42 #[.slice A n c, I k] w fun e w' => e = .returned (I (oneM p k)) ∧ w = w' := by
  suffices HH : ∀ (d : Nat) (k : Int), (k < 0 ∨ (n : Int) - k ≤ d) → k ≤ 65536 → Calls Try.prog 42 #[.slice A n c, I k] w fun e w' => e = .returned (I (oneM p k)) ∧ w = w' by
    exact HH n k (by omega) hk
  clear hk k
  have hbase : ∀ k : Int, (k < 0 ∨ (n : Int) ≤ k) → k ≤ 65536 → Calls Try.prog 42 #[.slice A n c, I k] w fun e w' => e = .returned (I (oneM p k)) ∧ w = w' := by
    intro k hk hk'
    by_cases h0 : k < 0
    · rw [oneM_neg p h0]
      go_enter Try.func42, Try.ntmps42
      go_wp2
      go_ret; exact ⟨rfl, rfl⟩
    · have h1 : (n : Int) ≤ k := by omega
      rw [oneM_big p (by rw [h.1]; exact h1)]
      go_enter Try.func42, Try.ntmps42
      go_wp2
      go_ret; exact ⟨rfl, rfl⟩
  intro d
  induction d with
  | zero => exact fun k hk hk' => hbase k (by omega) hk'
  | succ d ih =>
    intro k hk hk'
    by_cases hb : k < 0 ∨ (n : Int) ≤ k
    · exact hbase k hb hk'
    clear hbase
    obtain ⟨k, rfl⟩ := Int.eq_ofNat_of_zero_le (show 0 ≤ k by omega)
    have hkn : k < n := by omega
    obtain ⟨b, off, x, rfl, hc, hc', hd, hx⟩ := h.next hkn
    have IH := Lib.hid ih; clear ih
    cases ht : two x.kind with
    | false =>
      have HM := Lib.hid (oneM_leaf hx ht)
      have HT := Lib.hid ht
      have H := Lib.hid h
      clear h ht hx hd
      go_enter Try.func42, Try.ntmps42
      go_wp2_with fail
      refine (two_any _ _).mono ?_; rintro e w' ⟨rfl, rfl⟩; rw [HT.out]
      go_wp2
      go_ret; exact ⟨ret_int HM.out.symm, rfl⟩
    | true =>
      have HM := Lib.hid (oneM_two hx ht)
      have hr := oneM_range p ((k : Int) + 1)
      rw [h.1] at hr
      generalize hq : oneM p ((k : Int) + 1) = q at hr
      have HQ := Lib.hid hq
      have HT := Lib.hid ht
      have H := Lib.hid h
      clear h ht hx hd hq
      go_enter Try.func42, Try.ntmps42
      go_wp2_with fail
      refine (two_any _ _).mono ?_; rintro e w' ⟨rfl, rfl⟩; rw [HT.out]
      go_wp2_with fail
      refine (IH.out _ (by omega) (by omega)).mono ?_; rintro e w' ⟨rfl, rfl⟩; rw [HQ.out]
      go_wp2_with fail
      refine (IH.out _ (by omega) (by omega)).mono ?_; rintro e w' ⟨rfl, rfl⟩
      go_wp2
      go_ret; exact ⟨ret_int (by rw [HM.out, HQ.out]), rfl⟩
set_option maxHeartbeats 2000000 in
theorem progCheck_any (A : Option Addr) (n c : Nat) (p : List PNode) (w : World) (h : SlN w A n p) (hn : n ≤ maxLen) :
    Calls Try.prog 15 #[.slice A n c] w fun e w' => e = .returned (I (checkP p)) ∧ Ext w w' := by
  have hn' := hn; unfold maxLen at hn'
  generalize hR : checkP p = R
  unfold checkP at hR
  rw [h.1] at hR
  by_cases hbig : 14 < n
  · rw [if_pos hbig] at hR
    subst hR
    go_enter Try.func15, Try.ntmps15
    go_wp2
    go_ret; exact ⟨rfl, Ext.refl _⟩
  rw [if_neg hbig] at hR
  have H := Lib.hid h; clear h
  have HR := Lib.hid hR; clear hR
  go_enter Try.func15, Try.ntmps15
  go_wp2
  go_loopw [4, 12] (fun _ i wr => ∃ (k : Nat), k ≤ n ∧ i = .int .i64 k ∧ Ext w wr ∧ (p.drop k).any badKind = p.any badKind) (fun _ i _ => n - (intOf i).toNat)
  case atStart => exact ⟨0, Nat.zero_le _, rfl, Ext.refl _, rfl⟩
  case round =>
    obtain ⟨k, hk, rfl, hext, hM⟩ := hrel
    by_cases hlt : k < n
    · obtain ⟨b, off, x, rfl, hc0, hc0', hd, hx⟩ := H.out.next hlt
      have hc := hext.keeps _ _ hc0
      have hc' := hext.keeps _ _ hc0'
      rw [hd, List.any_cons] at hM
      have HM := Lib.hid hM; clear hM hd hx hc0 hc0'
      by_cases hb : badKind x = true
      · have hb2 : x.kind < 0 ∨ 8 < x.kind := by simpa [badKind] using hb
        have HB : Hid (R = 4) := by unfold Hid; rw [← HR.out, ← HM.out, hb]; rfl
        clear hb
        rcases hb2 with g | g
        · go_wp2
          go_ret; exact ⟨ret_int HB.out.symm, hext.alloc _⟩
        · have g' : ¬ x.kind < 0 := by omega
          go_wp2
          go_ret; exact ⟨ret_int HB.out.symm, hext.alloc _⟩
      · have hb2 : ¬ x.kind < 0 ∧ ¬ 8 < x.kind := by simpa [badKind] using hb
        have HB : Hid (badKind x = false) := by unfold Hid; simpa using hb
        obtain ⟨g1, g2⟩ := hb2
        clear hb
        go_wp2
        go_roundw
        case rel => exact ⟨k + 1, by omega, by go_num, hext.alloc _, by rw [← HM.out, HB.out]; simp⟩
        case measure => simp [intOf]; omega
    · rw [H.out.drop_end hlt] at hM
      have HK : Hid (p.any badKind = false) := by unfold Hid; rw [← hM]; rfl
      have HR2 : Hid ((if p.any badSig = true then 3 else if oneM p 0 ≠ (n : Int) then 1 else 0) = R) := by unfold Hid; rw [← HR.out, HK.out]; rfl
      clear hM HR
      go_wp2
      go_loopw [6, 27] (fun _ i wr => ∃ (k : Nat), k ≤ n ∧ i = .int .i64 k ∧ Ext w wr ∧ (p.drop k).any badSig = p.any badSig) (fun _ i _ => n - (intOf i).toNat)
      case atStart => exact ⟨0, Nat.zero_le _, rfl, hext, rfl⟩
      case round =>
        obtain ⟨k', hk', rfl, hext', hM⟩ := hrel
        by_cases hlt' : k' < n
        · obtain ⟨b, off, x, rfl, hc0, hc0', hd, hx⟩ := H.out.next hlt'
          have hc := hext'.keeps _ _ hc0
          have hc' := hext'.keeps _ _ hc0'
          rw [hd, List.any_cons] at hM
          have HM := Lib.hid hM; clear hM hd hx hc0 hc0'
          by_cases hb : badSig x = true
          · have hb2 : x.sig < 0 ∨ signsM x.kind ≤ x.sig := by simpa [badSig] using hb
            have HB : Hid (R = 3) := by unfold Hid; rw [← HR2.out, ← HM.out, hb]; rfl
            clear hb
            by_cases g : x.sig < 0
            · clear hb2
              go_wp2_with fail
              go_quiet (fail)
              go_wp2
              go_ret; exact ⟨ret_int HB.out.symm, (hext'.alloc _).drewN _⟩
            · have g' : signsM x.kind ≤ x.sig := by omega
              have gd : decide (x.sig < 0) = false := by simpa using g
              clear hb2
              go_wp2_with fail
              go_quiet ((go_at_call 41; refine Calls.quiet_of_same ((signs_any _ _).mono fun e w' h => ⟨h.1, h.2.symm⟩)))
              go_wp2
              go_ret; exact ⟨ret_int HB.out.symm, (hext'.alloc _).drewN _⟩
          · have hb2 : ¬ x.sig < 0 ∧ ¬ signsM x.kind ≤ x.sig := by simpa [badSig] using hb
            have HB : Hid (badSig x = false) := by unfold Hid; simpa using hb
            obtain ⟨g, g'⟩ := hb2
            have gd : decide (x.sig < 0) = false := by simpa using g
            clear hb
            go_wp2_with fail
            go_quiet ((go_at_call 41; refine Calls.quiet_of_same ((signs_any _ _).mono fun e w' h => ⟨h.1, h.2.symm⟩)))
            go_wp2
            go_roundw
            case rel => exact ⟨k' + 1, by omega, by go_num, (hext'.alloc _).drewN _, by rw [← HM.out, HB.out]; simp⟩
            case measure => simp [intOf]; omega
        · rw [H.out.drop_end hlt'] at hM
          have HK2 : Hid (p.any badSig = false) := by unfold Hid; rw [← hM]; rfl
          have HR3 : Hid ((if oneM p 0 ≠ (n : Int) then 1 else 0) = R) := by unfold Hid; rw [← HR2.out, HK2.out]; rfl
          clear hM HR2
          generalize hq : oneM p 0 = q
          have HQ := Lib.hid hq; clear hq
          have HS := Lib.hid (H.out.keep hext'.keeps)
          by_cases hqn : q = n
          · have g : (q != (n : Int)) = false := by simpa using hqn
            have HN := Lib.hid hqn; clear hqn
            go_wp2_with fail
            refine (one_any A n c p 0 _ HS.out (by omega) (by omega)).mono ?_; rintro e w' ⟨rfl, rfl⟩; rw [HQ.out]
            go_wp2
            go_ret; exact ⟨ret_int (by rw [← HR3.out, HQ.out, HN.out]; simp), hext'⟩
          · have g : (q != (n : Int)) = true := by simpa using hqn
            have HN := Lib.hid hqn; clear hqn
            go_wp2_with fail
            refine (one_any A n c p 0 _ HS.out (by omega) (by omega)).mono ?_; rintro e w' ⟨rfl, rfl⟩; rw [HQ.out]
            go_wp2
            go_ret; exact ⟨ret_int (by rw [← HR3.out, HQ.out, if_pos HN.out]), hext'⟩
end Go.Proofs.Ytlafiddfplhafaa
/- prog.Of, prog.Parts. -/
namespace Go.Proofs.Ytlafiddfplhafaa
set_option linter.unusedVariables false
set_option linter.unusedSimpArgs false
open Go.RowKit
theorem progOf_any (A : Option Addr) (n c : Nat) (p : List PNode) (k : Nat) (w : World) (h : SlN w A n p) (hn : n ≤ 60000) (hk : k < n) :
    Calls Try.prog 78 #[.slice A n c, I k] w fun e w' => e = .returned (Pr3 (I (ofP p k).1) (I (ofP p k).2.1) (I (ofP p k).2.2)) ∧ w = w' := by
  obtain ⟨b, off, x, rfl, hc, hc', hd, hx⟩ := h.next hk
  generalize hR : ofP p k = R
  unfold ofP at hR
  rw [hx] at hR
  have H := Lib.hid h
  have HR := Lib.hid hR
  clear h hx hd hR
  cases ht : two x.kind
  all_goals
    have HT := Lib.hid ht; clear ht
    go_enter Try.func78, Try.ntmps78
    go_wp2_with fail
    refine (two_any _ _).mono ?_; rintro e w' ⟨rfl, rfl⟩; rw [HT.out]
    go_wp2_with (go_at_call 42; with_reducible refine (one_any _ n c p _ w H.out (by omega) (by omega)).mono ?_; rintro e w' ⟨rfl, rfl⟩)
    go_ret3
    exact ⟨by rw [← HR.out]; simp only [HT.out]; rfl, rfl⟩
end Go.Proofs.Ytlafiddfplhafaa
/- prog.Waits. -/
namespace Go.Proofs.Ytlafiddfplhafaa
set_option linter.unusedVariables false
set_option linter.unusedSimpArgs false
open Go.RowKit
theorem tab_bool : (Try.prog.info? 4).map (fun i => (i.zero, i.size, i.bytes)) = some (some (.bool false), 1, 1) := by kernel_rfl
end Go.Proofs.Ytlafiddfplhafaa
