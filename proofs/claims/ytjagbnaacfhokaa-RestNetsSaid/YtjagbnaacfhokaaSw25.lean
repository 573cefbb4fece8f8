/- The bodies of TickDoes and TickRuns, from the contracts. -/
import Derived.Test.YtjagbnaacfhokaaSw24
import Derived.Test.YtjagbnaacfhokaaSw21
import Derived.Test.YtjagbnaacfhokaaSw13
import Derived.Test.YtjagbnaacfhokaaSw15
import Derived.Test.YtjagbnaacfhokaaSw19
namespace Go.Proofs.Ytjagbnaacfhokaa
set_option linter.unusedVariables false
set_option linter.unusedSimpArgs false
open Go.RowKit

section
variable (i : Int) (GA : Option Addr) (gn gc : Nat) (RA : Option Addr) (rn rc : Nat) (OA : Option Addr) (on oc : Nat) (N : NetM)

set_option maxHeartbeats 2000000 in
theorem tickDoes_walk (RB : Option Addr) (pn pc : Nat) (IA : Option Addr) (jn jc : Nat) (regs ins : List Int) (w : World) (h : NetC w i GA gn gc RA rn rc OA on oc N) (hr : Sl w RB pn (regs.map I)) (hi : Sl w IA jn (ins.map I)) (hpm : pn ≤ maxLen) (hjm : jn ≤ maxLen) (hlo : -9223372036854775808 ≤ i) :
    Calls Try.prog 15 #[netV i GA gn gc RA rn rc OA on oc, .slice RB pn pc, .slice IA jn jc] w fun e w' => e = .returned (.bool true) ∧ Ext w w' := by
  obtain ⟨W, hW⟩ : ∃ W, W = w.alloc (.cells #[I i, .slice GA gn gc, .slice RA rn rc, .slice OA on oc] 26) := ⟨_, rfl⟩
  have hxW : Ext w W := by rw [hW]; exact (Ext.refl _).alloc _
  have hbox : NetBox W w.heap.size i GA gn gc RA rn rc OA on oc := by rw [hW]; exact NetBox.new w i GA gn gc RA rn rc OA on oc _
  have HN := Lib.hid (h.keep hxW.keeps); have HBox := Lib.hid hbox; have HW := Lib.hid hW; have HX := Lib.hid hxW
  have HR := Lib.hid (hr.keep hxW.keeps); have HI := Lib.hid (hi.keep hxW.keeps)
  clear h hr hi hW hxW hbox
  go_enter Try.func15, Try.ntmps15
  go_wp2_with fail
  rw [← HW.out]
  refine (do_any i GA gn gc RA rn rc OA on oc N RB pn pc IA jn jc regs ins W HN.out HR.out HI.out hpm hjm).mono ?_; rintro e w1 ⟨vo, vn, rfl, ho, hn, x1⟩
  generalize hM : doQ N regs ins = M at *
  generalize hE : doE N regs ins = E at *
  obtain ⟨A1', c1, rfl, n1, m1, hs1⟩ := own_sl ho
  obtain ⟨B1, d1, rfl, n2, m2, hs2⟩ := own_sl hn
  obtain ⟨q0, q1, q2, q3⟩ := HBox.out.keep x1.keeps
  have S1 := Lib.hid hs1; have S2 := Lib.hid hs2; have X1 := Lib.hid x1; have HM := Lib.hid hM; have HE := Lib.hid hE; clear hs1 hs2 x1 ho hn hM hE
  go_wp2_with fail
  refine (doOf_any i GA gn gc RA rn rc OA on oc N RB pn pc IA jn jc regs ins w1 (HN.out.keep X1.out.keeps) (HR.out.keep X1.out.keeps) (HI.out.keep X1.out.keeps) hpm hjm hlo).mono ?_; rintro e w2 ⟨vo, vn, rfl, ho, hn, x2⟩
  rw [HM.out] at ho hn
  rw [HE.out]
  obtain ⟨A2, c2, rfl, -, -, hs3⟩ := own_sl ho
  obtain ⟨B2, d2, rfl, -, -, hs4⟩ := own_sl hn
  have S1' := Lib.hid (S1.out.keep x2.keeps); have S2' := Lib.hid (S2.out.keep x2.keeps); have S3 := Lib.hid hs3; have S4 := Lib.hid hs4; have X2 := Lib.hid (X1.out.trans x2); clear hs3 hs4 x2 ho hn q0 q1 q2 q3 S1 S2
  go_wp2_with fail
  refine (tickBegun_any w2).mono ?_; rintro e w3 ⟨rfl, x3⟩
  have X3 := Lib.hid x3; clear x3
  go_wp2_with fail
  refine (sameInts_any A1' A2 _ _ c1 c2 M.1 M.1 w3 (S1'.out.keep X3.out.keeps) (S3.out.keep X3.out.keeps) (Nat.le_trans n1 m1) (Nat.le_trans n1 m1)).mono ?_; rintro e w4 ⟨rfl, m, rfl⟩
  have X4 := Lib.hid (X3.out.drewN m)
  rw [decide_eq_true (rfl : M.1 = M.1)]
  go_wp2_with fail
  refine (sameInts_any B1 B2 _ _ d1 d2 M.2 M.2 _ (S2'.out.keep X4.out.keeps) (S4.out.keep X4.out.keeps) (Nat.le_trans n2 m2) (Nat.le_trans n2 m2)).mono ?_; rintro e w4 ⟨rfl, m', rfl⟩
  rw [decide_eq_true (rfl : M.2 = M.2)]
  go_wp2
  go_ret
  exact ⟨by simp, (HX.out.trans (X2.out.trans X3.out)).drewN _⟩

set_option maxHeartbeats 2000000 in
theorem tickRuns_walk (A : Option Addr) (n c : Nat) (l : List Int) (w : World) (h : NetC w i GA gn gc RA rn rc OA on oc N) (hl : Sl w A n (l.map I)) (hn : n ≤ maxLen) (hlo : -9223372036854775808 ≤ i) :
    Calls Try.prog 16 #[netV i GA gn gc RA rn rc OA on oc, .slice A n c] w fun e w' => e = .returned (.bool true) ∧ Ext w w' := by
  obtain ⟨W, hW⟩ : ∃ W, W = w.alloc (.cells #[I i, .slice GA gn gc, .slice RA rn rc, .slice OA on oc] 26) := ⟨_, rfl⟩
  have hxW : Ext w W := by rw [hW]; exact (Ext.refl _).alloc _
  have hbox : NetBox W w.heap.size i GA gn gc RA rn rc OA on oc := by rw [hW]; exact NetBox.new w i GA gn gc RA rn rc OA on oc _
  have HN := Lib.hid (h.keep hxW.keeps); have HBox := Lib.hid hbox; have HW := Lib.hid hW; have HX := Lib.hid hxW
  have HL := Lib.hid (hl.keep hxW.keeps); have HNM := Lib.hid hn
  clear h hl hn hW hxW hbox
  go_enter Try.func16, Try.ntmps16
  go_wp2_with fail
  rw [← HW.out]
  refine (run_any i GA gn gc RA rn rc OA on oc N A n c l W HN.out HL.out HNM.out).mono ?_; rintro e w1 ⟨vo, vn, vs, rfl, ho, hn, x1⟩
  generalize hM : runV N l = M at *
  generalize hE : runE N l = E at *
  obtain ⟨A1', c1, rfl, n1, m1, hs1⟩ := ho.slice
  obtain ⟨B1, d1, rfl, n2, m2, hs2⟩ := own_sl hn
  obtain ⟨q0, q1, q2, q3⟩ := HBox.out.keep x1.keeps
  have S1 := Lib.hid hs1; have S2 := Lib.hid hs2; have X1 := Lib.hid x1; have HM := Lib.hid hM; have HE := Lib.hid hE; clear hs1 hs2 x1 ho hn hM hE
  go_wp2_with fail
  refine (runOf_any i GA gn gc RA rn rc OA on oc N A n c l w1 (HN.out.keep X1.out.keeps) (HL.out.keep X1.out.keeps) HNM.out hlo).mono ?_; rintro e w2 ⟨vo, vn, vs', rfl, ho, hn, x2⟩
  rw [HM.out] at ho hn
  rw [HE.out]
  obtain ⟨A2, c2, rfl, -, -, hs3⟩ := ho.slice
  obtain ⟨B2, d2, rfl, -, -, hs4⟩ := own_sl hn
  have S1' := Lib.hid (S1.out.keep x2.keeps); have S2' := Lib.hid (S2.out.keep x2.keeps); have S3 := Lib.hid hs3; have S4 := Lib.hid hs4; have X2 := Lib.hid (X1.out.trans x2); clear hs3 hs4 x2 ho hn q0 q1 q2 q3 S1 S2
  go_wp2_with fail
  refine (tickBegun_any w2).mono ?_; rintro e w3 ⟨rfl, x3⟩
  have X3 := Lib.hid x3; clear x3
  go_wp2_with fail
  refine (sameRows_any A1' A2 _ _ c1 c2 M.1 M.1 w3 (S1'.out.keep X3.out.keeps) (S3.out.keep X3.out.keeps) (Nat.le_trans n1 m1) (Nat.le_trans n1 m1)).mono ?_; rintro e w4 ⟨rfl, x4⟩
  have X4 := Lib.hid (X3.out.trans x4); clear x4
  rw [decide_eq_true (rfl : M.1 = M.1)]
  go_wp2_with fail
  refine (sameInts_any B1 B2 _ _ d1 d2 M.2 M.2 w4 (S2'.out.keep X4.out.keeps) (S4.out.keep X4.out.keeps) (Nat.le_trans n2 m2) (Nat.le_trans n2 m2)).mono ?_; rintro e w5 ⟨rfl, m', rfl⟩
  rw [decide_eq_true (rfl : M.2 = M.2)]
  go_wp2
  go_ret
  exact ⟨by simp, (HX.out.trans (X2.out.trans X4.out)).drewN _⟩
end
end Go.Proofs.Ytjagbnaacfhokaa
/- The body of SweepSame, from the contracts. -/
namespace Go.Proofs.Ytjagbnaacfhokaa
set_option linter.unusedVariables false
set_option linter.unusedSimpArgs false
open Go.RowKit

theorem swept_run {N : NetM} {l : List Int} (h : runE N l = 0) : runE (dropN (foldN N)) l = 0 ∧ runV (dropN (foldN N)) l = runV N l := by
  obtain ⟨h1, h2, q, hq⟩ := runE_ok h
  have ok := checkN_ok h1
  have okd := dropN_ok (foldN_ok ok)
  have hr := sweep_run ok l (firstM N) q (by simp [firstM]) hq
  have hf : firstM (dropN (foldN N)) = firstM N := by rw [drop_first, foldN_first]
  have he : runE (dropN (foldN N)) l = 0 := by
    unfold runE
    rw [if_neg (by simp [okd.check]), hf, hr]
    rw [show (dropN (foldN N)).ins = N.ins from rfl, if_neg (by simp [h2])]
    rfl
  refine ⟨he, ?_⟩
  unfold runV
  rw [if_pos he, if_pos h, hf, hr, hq]
section
variable (i : Int) (GA : Option Addr) (gn gc : Nat) (RA : Option Addr) (rn rc : Nat) (OA : Option Addr) (on oc : Nat) (N : NetM)
set_option maxRecDepth 100000 in
set_option maxHeartbeats 8000000 in
theorem sweepSame_walk (A : Option Addr) (n c : Nat) (l : List Int) (w : World) (h : NetC w i GA gn gc RA rn rc OA on oc N) (hl : Sl w A n (l.map I)) (hn : n ≤ maxLen) :
    Calls Try.prog 25 #[netV i GA gn gc RA rn rc OA on oc, .slice A n c] w fun e w' => e = .returned (.bool true) ∧ Ext w w' := by
  obtain ⟨W, hW, hxW, hbox⟩ := netbox_new w i GA gn gc RA rn rc OA on oc
  have HN := Lib.hid (h.keep hxW.keeps); have HBox := Lib.hid hbox; have HW := Lib.hid hW; have HX := Lib.hid hxW
  have HL := Lib.hid (hl.keep hxW.keeps); have HNM := Lib.hid hn
  clear h hl hn hW hxW hbox
  go_enter Try.func25, Try.ntmps25
  go_wp2_with fail
  rw [← HW.out]
  refine (run_any i GA gn gc RA rn rc OA on oc N A n c l W HN.out HL.out HNM.out).mono ?_; rintro e w1 ⟨vo, vn, vs, rfl, ho, hn, x1⟩
  obtain ⟨q0, q1, q2, q3⟩ := HBox.out.keep x1.keeps
  have X1 := Lib.hid x1
  by_cases he : runE N l = 0
  · obtain ⟨he2, hv2⟩ := swept_run he
    have hc := (runE_ok he).1
    have ok := checkN_ok hc
    have HE2 := Lib.hid he2; have HV2 := Lib.hid hv2; have HC := Lib.hid hc
    have HCF := Lib.hid (foldN_ok ok).check
    rw [he]
    generalize hM : runV N l = M at *
    obtain ⟨A1, c1, rfl, n1, m1, hs1⟩ := ho.slice
    obtain ⟨B1, d1, rfl, n2, m2, hs2⟩ := own_sl hn
    have S1 := Lib.hid hs1; have S2 := Lib.hid hs2
    have Q1 := Lib.hid (Nat.le_trans n1 m1); have Q2 := Lib.hid (Nat.le_trans n2 m2)
    clear he hM hc ok he2 hv2 hs1 hs2 ho hn x1 n1 m1 n2 m2
    go_wp2_with fail
    clear q0 q1 q2 q3
    refine (fold_any i GA gn gc RA rn rc OA on oc N w1 (HN.out.keep X1.out.keeps)).mono ?_; rintro e w2 ⟨i2, GA2, gn2, gc2, RA2, rn2, rc2, OA2, on2, oc2, vs2, rfl, o2, x2⟩
    rw [HC.out]
    rw [show foldR N = foldN N by unfold foldR; rw [if_pos HC.out]] at o2
    obtain ⟨wf, hwf, hxf, hbf⟩ := netbox_new w2 i2 GA2 gn2 gc2 RA2 rn2 rc2 OA2 on2 oc2
    have XF := Lib.hid (x2.trans hxf); have HF := Lib.hid (o2.netC.keep hxf.keeps); have HWF := Lib.hid hwf
    rw [hwf] at hbf
    obtain ⟨q0, q1, q2, q3⟩ := hbf
    clear o2 x2 hwf hxf
    go_wp2_with fail
    rw [← HWF.out]
    clear q0 q1 q2 q3 HWF
    refine (drop_any i2 GA2 gn2 gc2 RA2 rn2 rc2 OA2 on2 oc2 (foldN N) wf HF.out).mono ?_; rintro e w3 ⟨i3, GA3, gn3, gc3, RA3, rn3, rc3, OA3, on3, oc3, vs3, rfl, o3, x3⟩
    rw [HCF.out]
    rw [show dropR (foldN N) = dropN (foldN N) by unfold dropR; rw [if_pos HCF.out]] at o3
    obtain ⟨wd, hwd, hxd, hbd⟩ := netbox_new w3 i3 GA3 gn3 gc3 RA3 rn3 rc3 OA3 on3 oc3
    have XD := Lib.hid (XF.out.trans (x3.trans hxd)); have HD := Lib.hid (o3.netC.keep hxd.keeps); have HWD := Lib.hid hwd
    rw [hwd] at hbd
    obtain ⟨q0, q1, q2, q3⟩ := hbd
    clear o3 x3 hwd hxd
    go_wp2_with fail
    rw [← HWD.out]
    clear q0 q1 q2 q3 HWD
    refine (run_any i3 GA3 gn3 gc3 RA3 rn3 rc3 OA3 on3 oc3 (dropN (foldN N)) A n c l wd HD.out (HL.out.keep (X1.out.trans XD.out).keeps) HNM.out).mono ?_; rintro e w4 ⟨vo, vn, vs', rfl, ho, hn, x4⟩
    rw [HV2.out] at ho hn
    rw [HE2.out]
    obtain ⟨A2, c2, rfl, -, -, hs3⟩ := ho.slice
    obtain ⟨B2, d2, rfl, -, -, hs4⟩ := own_sl hn
    have X4 := Lib.hid (XD.out.trans x4); have S3 := Lib.hid hs3; have S4 := Lib.hid hs4
    clear ho hn hs3 hs4 x4
    go_wp2_with fail
    refine (sweepBegun_any w4).mono ?_; rintro e w5 ⟨rfl, x5⟩
    have X5 := Lib.hid x5
    clear x5
    go_wp2_with fail
    refine (sameRows_any A1 A2 _ _ c1 c2 M.1 M.1 w5 (S1.out.keep (X4.out.trans X5.out).keeps) (S3.out.keep X5.out.keeps) Q1.out Q1.out).mono ?_; rintro e w6 ⟨rfl, x6⟩
    have X6 := Lib.hid (X5.out.trans x6); clear x6
    rw [decide_eq_true (rfl : M.1 = M.1)]
    go_wp2_with fail
    refine (sameInts_any B1 B2 _ _ d1 d2 M.2 M.2 w6 (S2.out.keep (X4.out.trans X6.out).keeps) (S4.out.keep X6.out.keeps) Q2.out Q2.out).mono ?_; rintro e w7 ⟨rfl, m', rfl⟩
    rw [decide_eq_true (rfl : M.2 = M.2)]
    go_wp2
    go_ret
    exact ⟨by simp, (HX.out.trans (X1.out.trans (X4.out.trans X6.out))).drewN _⟩
  · have hnz : (runE N l != 0) = true := by simpa using he
    obtain ⟨A1, c1, rfl, -, -, -⟩ := ho.slice
    obtain ⟨B1, d1, rfl, -, -, -⟩ := own_sl hn
    generalize runE N l = E at *
    clear he x1 ho hn
    go_wp2_with fail
    refine (sweepBegun_any w1).mono ?_; rintro e w5 ⟨rfl, x5⟩
    go_wp2
    go_ret
    exact ⟨rfl, HX.out.trans (X1.out.trans x5)⟩
end
end Go.Proofs.Ytjagbnaacfhokaa
/- A net of one's own of which only the shape is told: what RestNets' writing into it keeps. -/
namespace Go.Proofs.Ytjagbnaacfhokaa
set_option linter.unusedVariables false
set_option linter.unusedSimpArgs false
open Go.RowKit

theorem own_block {w : World} {base : Nat} {e : TypeId} {size n : Nat} {v : Value} {xs : List Value} (h : w.ownsRow base e size v n xs) {b : Nat} (hb : v.ownBlock = some b) : ∃ c, v = .slice (some ⟨b, 0, none⟩) n c := by
  rcases h.2 with ⟨rfl, _⟩ | ⟨g, cap, cur, rfl, _⟩
  · cases hb
  · have : g = b := by simpa [Value.ownBlock] using hb
    subst this; exact ⟨_, rfl⟩
theorem OwnG.anyInt {w : World} {base base' n c b : Nat} {s : Value} {G : List GateM} {vs xs : List Value} (h : OwnG w base s G vs) (ho : w.ownsRow base' 3 1 (.slice (some ⟨b, 0, none⟩) n c) n xs) (j : Nat) (x : Int) :
    ∃ G' : List GateM, G'.length = G.length ∧ OwnG (w.setCell ⟨b, j, none⟩ (I x)) base s G' vs := by
  by_cases hk : ∃ (k : Nat) (v : Value), vs[k]? = some v ∧ v.ownBlock = some b
  · obtain ⟨k, v, hv, hb⟩ := hk
    have hkl : k < G.length := by have := h.vl; have := (List.getElem?_eq_some_iff.1 hv).1; omega
    have hg : G[k]? = some G[k] := List.getElem?_eq_getElem hkl
    obtain ⟨c', rfl⟩ := own_block (h.own k v _ hv hg) hb
    exact ⟨_, by simp, h.setArg hg hv j x⟩
  · refine ⟨G, rfl, h.out ho (fun v hv e => ?_) j (I x)⟩
    obtain ⟨k, hk'⟩ := List.mem_iff_getElem?.1 hv
    exact hk ⟨k, v, hk', e⟩
theorem own_anyInt {w : World} {base base' n n' c b : Nat} {v : Value} {xs : List Value} {ys : List Int} (h : w.ownsRow base 3 1 v n' (ys.map I)) (_ho : w.ownsRow base' 3 1 (.slice (some ⟨b, 0, none⟩) n c) n xs) (j : Nat) (x : Int) :
    ∃ zs : List Int, (w.setCell ⟨b, j, none⟩ (I x)).ownsRow base 3 1 v n' (zs.map I) := by
  by_cases hb : v.ownBlock = some b
  · obtain ⟨c', rfl⟩ := own_block h hb
    exact ⟨ys.set j x, by have := (h.stored j (I x)).1; rw [List.map_set]; exact this⟩
  · exact ⟨ys, own_set h hb _ _⟩
structure NetV (w : World) (lo : Nat) (GA : Option Addr) (gn gc : Nat) (RA : Option Addr) (rn rc : Nat) (OA : Option Addr) (on oc : Nat) (vs : List Value) : Prop where
  gates : ∃ G : List GateM, G.length = gn ∧ OwnG w lo (.slice GA gn gc) G vs
  regs : ∃ xs, w.ownsRow lo 78 2 (.slice RA rn rc) rn xs
  outs : ∃ ys : List Int, w.ownsRow lo 3 1 (.slice OA on oc) on (ys.map I)
section
variable {w w' : World} {lo : Nat} {GA : Option Addr} {gn gc : Nat} {RA : Option Addr} {rn rc : Nat} {OA : Option Addr} {on oc : Nat} {vs : List Value}
theorem NetO.netV {i : Int} {N : NetM} (h : NetO w lo i GA gn gc RA rn rc OA on oc N vs) : NetV w lo GA gn gc RA rn rc OA on oc vs := ⟨⟨_, h.gl, h.gates⟩, ⟨_, h.regs⟩, ⟨_, h.outs⟩⟩
theorem NetV.ext (h : NetV w lo GA gn gc RA rn rc OA on oc vs) (hx : Ext w w') : NetV w' lo GA gn gc RA rn rc OA on oc vs := by
  obtain ⟨⟨G, g1, g2⟩, ⟨xs, r⟩, ⟨ys, o⟩⟩ := h
  exact ⟨⟨G, g1, g2.ext hx⟩, ⟨xs, own_ext r hx⟩, ⟨ys, own_ext o hx⟩⟩
theorem NetV.base_le {lo' : Nat} (h : NetV w lo GA gn gc RA rn rc OA on oc vs) (hb : lo' ≤ lo) : NetV w lo' GA gn gc RA rn rc OA on oc vs := by
  obtain ⟨⟨G, g1, g2⟩, ⟨xs, r⟩, ⟨ys, o⟩⟩ := h
  exact ⟨⟨G, g1, g2.base_le hb⟩, ⟨xs, own_base r hb⟩, ⟨ys, own_base o hb⟩⟩
theorem NetV.int {base' n c b : Nat} {xs : List Value} (h : NetV w lo GA gn gc RA rn rc OA on oc vs) (ho : w.ownsRow base' 3 1 (.slice (some ⟨b, 0, none⟩) n c) n xs) (j : Nat) (x : Int) : NetV (w.setCell ⟨b, j, none⟩ (I x)) lo GA gn gc RA rn rc OA on oc vs := by
  obtain ⟨⟨G, g1, g2⟩, ⟨rs, r⟩, ⟨ys, o⟩⟩ := h
  obtain ⟨G', e, g3⟩ := g2.anyInt ho j x
  obtain ⟨zs, o'⟩ := own_anyInt o ho j x
  refine ⟨⟨G', e.trans g1, g3⟩, ⟨rs, own_set r ?_ _ _⟩, ⟨zs, o'⟩⟩
  rcases own_types r ho (by decide) with q | q
  · rw [q]; intro hh; cases hh
  · simpa [Value.ownBlock] using q
/-- The own rows' blocks are not that of a row of another type. -/
theorem apart_of {base base' n m : Nat} {e e' : TypeId} {size size' : Nat} {v : Value} {b c : Nat} {xs ys : List Value} (h : w.ownsRow base e size v n xs) (h' : w.ownsRow base' e' size' (.slice (some ⟨b, 0, none⟩) m c) m ys) (hne : e ≠ e') : v.ownBlock ≠ some b := by
  rcases own_types h h' hne with q | q
  · rw [q]; intro hh; cases hh
  · simpa [Value.ownBlock] using q
theorem OwnG.other {base' n c b : Nat} {s : Value} {G : List GateM} {xs : List Value} (h : OwnG w lo s G vs) (ho : w.ownsRow base' 34 3 (.slice (some ⟨b, 0, none⟩) n c) n xs) (hs : s.ownBlock ≠ some b) (k : Nat) (u : Value) : OwnG (w.setCell ⟨b, k, none⟩ u) lo s G vs := by
  refine h.kept (row := some b) (grownBy_set w b k u) (.inr hs) fun v hv => .inr ?_
  obtain ⟨j, hj⟩ := List.mem_iff_getElem?.1 hv
  have hj2 : j < G.length := by have := h.vl; have := (List.getElem?_eq_some_iff.1 hj).1; omega
  exact apart_of (h.own j v _ hj (List.getElem?_eq_getElem hj2)) ho (by decide)
/-- A gate of another net's row is set. -/
theorem NetV.gateOther {base' n c b : Nat} {xs : List Value} (h : NetV w lo GA gn gc RA rn rc OA on oc vs) (ho : w.ownsRow base' 34 3 (.slice (some ⟨b, 0, none⟩) n c) n xs) (hs : (Value.slice GA gn gc).ownBlock ≠ some b) (k : Nat) (u : Value) : NetV (w.setCell ⟨b, k, none⟩ u) lo GA gn gc RA rn rc OA on oc vs := by
  obtain ⟨⟨G, g1, g2⟩, ⟨rs, r⟩, ⟨ys, o⟩⟩ := h
  exact ⟨⟨G, g1, g2.other ho hs k u⟩, ⟨rs, own_set r (apart_of r ho (by decide)) _ _⟩, ⟨ys, own_set o (apart_of o ho (by decide)) _ _⟩⟩
theorem NetV.gate {b : Nat} (h : NetV w lo (some ⟨b, 0, none⟩) gn gc RA rn rc OA on oc vs) {k : Nat} (hk : k < gn) (kd : Int) :
    NetV (((w.setCell ⟨b, k * 3, none⟩ (I kd)).setCell ⟨b, k * 3 + 1, none⟩ (I 0)).setCell ⟨b, k * 3 + 2, none⟩ (.slice none 0 0)) lo (some ⟨b, 0, none⟩) gn gc RA rn rc OA on oc (vs.set k (.slice none 0 0)) := by
  obtain ⟨⟨G, g1, g2⟩, ⟨rs, r⟩, ⟨ys, o⟩⟩ := h
  have hrow := g2.row
  rw [g1] at hrow
  have a1 := apart_of r hrow (by decide); have a2 := apart_of o hrow (by decide)
  exact ⟨⟨_, by simpa using g1, g2.setGate (by omega) kd⟩, ⟨rs, own_set (own_set (own_set r a1 _ _) a1 _ _) a1 _ _⟩, ⟨ys, own_set (own_set (own_set o a2 _ _) a2 _ _) a2 _ _⟩⟩
/-- The gates' row after a store keeps its own. -/
theorem NetV.gateStored {base' n c b : Nat} {xs : List Value} (ho : w.ownsRow base' 34 3 (.slice (some ⟨b, 0, none⟩) n c) n xs) (k : Nat) (u : Value) : ∃ ys, (w.setCell ⟨b, k, none⟩ u).ownsRow base' 34 3 (.slice (some ⟨b, 0, none⟩) n c) n ys := ⟨_, (ho.stored k u).1⟩
theorem NetV.regOther {base' n c b : Nat} {xs : List Value} (h : NetV w lo GA gn gc RA rn rc OA on oc vs) (ho : w.ownsRow base' 78 2 (.slice (some ⟨b, 0, none⟩) n c) n xs) (hs : (Value.slice RA rn rc).ownBlock ≠ some b) (k : Nat) (u : Value) : NetV (w.setCell ⟨b, k, none⟩ u) lo GA gn gc RA rn rc OA on oc vs := by
  obtain ⟨⟨G, g1, g2⟩, ⟨rs, r⟩, ⟨ys, o⟩⟩ := h
  exact ⟨⟨G, g1, g2.reg ho k u⟩, ⟨rs, own_set r hs _ _⟩, ⟨ys, own_set o (apart_of o ho (by decide)) _ _⟩⟩
theorem NetV.reg {b : Nat} (h : NetV w lo GA gn gc (some ⟨b, 0, none⟩) rn rc OA on oc vs) (k : Nat) (u : Value) : NetV (w.setCell ⟨b, k, none⟩ u) lo GA gn gc (some ⟨b, 0, none⟩) rn rc OA on oc vs := by
  obtain ⟨⟨G, g1, g2⟩, ⟨rs, r⟩, ⟨ys, o⟩⟩ := h
  exact ⟨⟨G, g1, g2.reg r k u⟩, ⟨_, (r.stored k u).1⟩, ⟨ys, own_set o (apart_of o r (by decide)) _ _⟩⟩
/-- What is read of the gates' row. -/
theorem NetV.cells {b : Nat} (h : NetV w lo (some ⟨b, 0, none⟩) gn gc RA rn rc OA on oc vs) {k : Nat} {v : Value} (hv : vs[k]? = some v) : w.cell? ⟨b, k * 3 + 2, none⟩ = some v ∧ (∃ x, w.cell? ⟨b, k * 3, none⟩ = some (I x)) ∧ (∃ x, w.cell? ⟨b, k * 3 + 1, none⟩ = some (I x)) := by
  obtain ⟨⟨G, g1, g2⟩, -, -⟩ := h
  have hkl : k < G.length := by have := g2.vl; have := (List.getElem?_eq_some_iff.1 hv).1; omega
  have hg : G[k]? = some G[k] := List.getElem?_eq_getElem hkl
  obtain ⟨a1, a2, a3⟩ := gateCs_at G vs k _ v hg hv
  have hrow := g2.row
  rw [g1] at hrow
  exact ⟨(hrow.cellAt (k * 3 + 2) (by omega)).trans a3, ⟨_, (hrow.cellAt (k * 3) (by omega)).trans a1⟩, ⟨_, (hrow.cellAt (k * 3 + 1) (by omega)).trans a2⟩⟩
theorem Box.setOwn {b T n c k : Nat} {e : TypeId} {size : Nat} {CS xs : List Value} (hb : Box w T 26 CS) (h : w.ownsRow lo e size (.slice (some ⟨b, 0, none⟩) n c) n xs) (hne : e ≠ 26) (u : Value) : Box (w.setCell ⟨b, k, none⟩ u) T 26 CS :=
  hb.kept (grownBy_set w b k u) (hb.apart h hne)
theorem NetV.gateOther3 {base' n c b k : Nat} {xs : List Value} (h : NetV w lo GA gn gc RA rn rc OA on oc vs) (ho : w.ownsRow base' 34 3 (.slice (some ⟨b, 0, none⟩) n c) n xs) (hs : (Value.slice GA gn gc).ownBlock ≠ some b) (x y z : Value) :
    NetV (((w.setCell ⟨b, k, none⟩ x).setCell ⟨b, k + 1, none⟩ y).setCell ⟨b, k + 2, none⟩ z) lo GA gn gc RA rn rc OA on oc vs := by
  have o1 := (ho.stored k x).1
  have o2 := (o1.stored (k + 1) y).1
  exact ((h.gateOther ho hs k x).gateOther o1 hs (k + 1) y).gateOther o2 hs (k + 2) z
theorem Box.setOwn3 {b T n c k : Nat} {CS xs : List Value} (hb : Box w T 26 CS) (ho : w.ownsRow lo 34 3 (.slice (some ⟨b, 0, none⟩) n c) n xs) (x y z : Value) : Box (((w.setCell ⟨b, k, none⟩ x).setCell ⟨b, k + 1, none⟩ y).setCell ⟨b, k + 2, none⟩ z) T 26 CS := by
  have o1 := (ho.stored k x).1
  have o2 := (o1.stored (k + 1) y).1
  exact ((hb.setOwn ho (by decide) x).setOwn o1 (by decide) y).setOwn o2 (by decide) z
theorem NetV.argRow (h : NetV w lo GA gn gc RA rn rc OA on oc vs) {k : Nat} {v : Value} (hv : vs[k]? = some v) : ∃ n, ∃ ys : List Int, ys.length = n ∧ w.ownsRow lo 3 1 v n (ys.map I) := by
  obtain ⟨⟨G, g1, g2⟩, -, -⟩ := h
  have hkl : k < G.length := by have := g2.vl; have := (List.getElem?_eq_some_iff.1 hv).1; omega
  exact ⟨_, _, rfl, g2.own k v _ hv (List.getElem?_eq_getElem hkl)⟩
theorem NetV.vl (h : NetV w lo GA gn gc RA rn rc OA on oc vs) : vs.length = gn := by
  obtain ⟨⟨G, g1, g2⟩, -, -⟩ := h
  rw [g2.vl, g1]
theorem NetV.row (h : NetV w lo GA gn gc RA rn rc OA on oc vs) : ∃ xs, w.ownsRow lo 34 3 (.slice GA gn gc) gn xs := by
  obtain ⟨⟨G, g1, g2⟩, -, -⟩ := h
  have := g2.row
  rw [g1] at this
  exact ⟨_, this⟩
end
end Go.Proofs.Ytjagbnaacfhokaa
/- The body of RestNets, from the contracts. -/
namespace Go.Proofs.Ytjagbnaacfhokaa
set_option linter.unusedVariables false
set_option linter.unusedSimpArgs false
open Go.RowKit

theorem askedM_zero {N : NetM} {regs ins : List Int} (h : askedM N regs ins = 0) : checkN N = 0 := by
  unfold askedM at h
  by_cases hc : checkN N = 0
  · exact hc
  · rw [if_pos hc] at h; exact absurd h hc
section
variable (i : Int) (GA : Option Addr) (gn gc : Nat) (RA : Option Addr) (rn rc : Nat) (OA : Option Addr) (on oc : Nat) (N : NetM) (RB : Option Addr) (pn pc : Nat) (IA : Option Addr) (jn jc : Nat) (regs ins : List Int) (w : World)
set_option maxRecDepth 100000 in
set_option maxHeartbeats 16000000 in
theorem restNets_walk (h : NetC w i GA gn gc RA rn rc OA on oc N) (hr : Sl w RB pn (regs.map I)) (hi : Sl w IA jn (ins.map I)) (hpm : pn ≤ maxLen) (hjm : jn ≤ maxLen) (hlo : -9223372036854775808 ≤ i) :
    Calls Try.prog 23 #[netV i GA gn gc RA rn rc OA on oc, .slice RB pn pc, .slice IA jn jc] w fun e w' => e = .returned (.bool true) ∧ Ext w w' := by
  obtain ⟨W, hW, hxW, hbox⟩ := netbox_new w i GA gn gc RA rn rc OA on oc
  have HN := Lib.hid (h.keep hxW.keeps); have HBox := Lib.hid hbox; have HW := Lib.hid hW; have HX := Lib.hid hxW
  have HR := Lib.hid (hr.keep hxW.keeps); have HI := Lib.hid (hi.keep hxW.keeps)
  clear h hW hxW hbox hr hi
  go_enter Try.func23, Try.ntmps23
  go_wp2_with fail
  rw [← HW.out]
  refine (stepError_any i GA gn gc RA rn rc OA on oc N RB pn pc IA jn jc regs ins W HN.out HR.out HI.out hpm hjm hlo).mono ?_; rintro e w1 ⟨rfl, x1⟩
  obtain ⟨q0, q1, q2, q3⟩ := HBox.out.keep x1.keeps
  have X1 := Lib.hid x1
  clear x1
  by_cases ha : askedM N regs ins = 0
  · have hc := askedM_zero ha
    have ok := checkN_ok hc
    rw [ha]
    have HA := Lib.hid ha; have HC := Lib.hid hc; have OK := Lib.hid ok
    clear ha hc ok
    go_wp2_with fail
    clear q0 q1 q2 q3
    refine (ownNet_any i GA gn gc RA rn rc OA on oc N w1 (HN.out.keep X1.out.keeps) OK.out).mono ?_; rintro e w2 ⟨i2, GA2, gn2, gc2, RA2, rn2, rc2, OA2, on2, oc2, vs2, rfl, o2, x2⟩
    obtain ⟨wk, hwk, hxk, hbk⟩ := netbox_new w2 i2 GA2 gn2 gc2 RA2 rn2 rc2 OA2 on2 oc2
    have KN := Lib.hid (o2.netC.keep hxk.keeps); have KB := Lib.hid hbk; have HWK := Lib.hid hwk; have XK := Lib.hid (X1.out.trans (x2.trans hxk))
    have hq := HBox.out.keep XK.out.keeps
    rw [hwk] at hq
    obtain ⟨q0, q1, q2, q3⟩ := hq
    clear o2 x2 hwk hxk hbk
    go_wp2_with fail
    clear q0 q1 q2 q3
    rw [← HWK.out]
    clear HWK
    refine (fold_any i GA gn gc RA rn rc OA on oc N wk (HN.out.keep XK.out.keeps)).mono ?_; rintro e w3 ⟨i3, GA3, gn3, gc3, RA3, rn3, rc3, OA3, on3, oc3, vs3, rfl, o3, x3⟩
    rw [HC.out]
    obtain ⟨wf, hwf, hxf, hbf⟩ := netbox_new w3 i3 GA3 gn3 gc3 RA3 rn3 rc3 OA3 on3 oc3
    have F3 := Lib.hid (o3.ext hxf); have FB := Lib.hid hbf; have HWF := Lib.hid hwf; have XF := Lib.hid (x3.trans hxf)
    have g3 := Lib.hid (fun b (e : GA3 = some ⟨b, 0, none⟩) => (o3.gates.row.lt b (by rw [e]; rfl)).2); have r3 := Lib.hid (fun b (e : RA3 = some ⟨b, 0, none⟩) => (o3.regs.lt b (by rw [e]; rfl)).2)
    have hs3 := Lib.hid hxf.size
    have hq := HBox.out.keep (XK.out.trans XF.out).keeps
    rw [hwf] at hq
    obtain ⟨q0, q1, q2, q3⟩ := hq
    clear o3 x3 hwf hxf hbf
    go_wp2_with fail
    clear q0 q1 q2 q3
    rw [← HWF.out]
    clear HWF
    refine (drop_any i GA gn gc RA rn rc OA on oc N wf (HN.out.keep (XK.out.trans XF.out).keeps)).mono ?_; rintro e w4 ⟨i4, GA4, gn4, gc4, RA4, rn4, rc4, OA4, on4, oc4, vs4, rfl, o4, x4⟩
    rw [HC.out]
    have hsg : ∀ b, GA3 = some ⟨b, 0, none⟩ → (Value.slice GA4 gn4 gc4).ownBlock ≠ some b := fun b e e2 => by
      have h1 := g3.out b e; have h2 := (o4.gates.row.lt b e2).1; have := hs3.out; omega
    have hsr : ∀ b, RA3 = some ⟨b, 0, none⟩ → (Value.slice RA4 rn4 rc4).ownBlock ≠ some b := fun b e e2 => by
      have h1 := r3.out b e; have h2 := (o4.regs.lt b e2).1; have := hs3.out; omega
    obtain ⟨wd, hwd, hxd, hbd⟩ := netbox_new w4 i4 GA4 gn4 gc4 RA4 rn4 rc4 OA4 on4 oc4
    have hq := FB.out.keep (x4.trans hxd).keeps
    obtain ⟨wn, hwn⟩ : ∃ q, q = wd.alloc (.cells #[I i3, .slice GA3 gn3 gc3, .slice RA3 rn3 rc3, .slice OA3 on3 oc3, I i4, .slice GA4 gn4 gc4, .slice RA4 rn4 rc4, .slice OA4 on4 oc4] 26) := ⟨_, rfl⟩
    have hxn : Ext wd wn := by rw [hwn]; exact (Ext.refl _).alloc _
    have hbn : Box wn wd.heap.size 26 [I i3, .slice GA3 gn3 gc3, .slice RA3 rn3 rc3, .slice OA3 on3 oc3, I i4, .slice GA4 gn4 gc4, .slice RA4 rn4 rc4, .slice OA4 on4 oc4] := by rw [hwn]; exact Box.new wd _ _
    have HWN : Hid (wn = (w4.alloc (.cells #[I i4, .slice GA4 gn4 gc4, .slice RA4 rn4 rc4, .slice OA4 on4 oc4] 26)).alloc (.cells #[I i3, .slice GA3 gn3 gc3, .slice RA3 rn3 rc3, .slice OA3 on3 oc3, I i4, .slice GA4 gn4 gc4, .slice RA4 rn4 rc4, .slice OA4 on4 oc4] 26)) := by unfold Hid; rw [hwn, hwd]
    have hsd : wd.heap.size = w4.heap.size + 1 := by rw [hwd]; simp
    have HSD := Lib.hid hsd
    have hFV : NetV wn wk.heap.size GA3 gn3 gc3 RA3 rn3 rc3 OA3 on3 oc3 vs3 := ((F3.out.ext (x4.trans (hxd.trans hxn))).netV)
    have hDV : NetV wn wk.heap.size GA4 gn4 gc4 RA4 rn4 rc4 OA4 on4 oc4 vs4 := ((o4.ext (hxd.trans hxn)).netV).base_le XF.out.size
    have FV := Lib.hid hFV; have DV := Lib.hid hDV; have SG := Lib.hid hsg; have SR := Lib.hid hsr; have BN := Lib.hid hbn; have XN := Lib.hid (XF.out.trans (x4.trans (hxd.trans hxn)))
    rw [hwd] at hq hbd
    clear o4 x4 hwd hxd hwn hxn hFV hDV hsg hsr hbn hsd F3 FB g3 r3 hs3
    obtain ⟨q0, q1, q2, q3⟩ := hq; obtain ⟨d0, d1, d2, d3⟩ := hbd
    go_wp2_with fail
    rw [← HWN.out, ← HSD.out]
    clear q0 q1 q2 q3 d0 d1 d2 d3 HWN
    obtain ⟨T, hT⟩ : ∃ T, T = wd.heap.size := ⟨_, rfl⟩
    obtain ⟨B, hB⟩ : ∃ B, B = wk.heap.size := ⟨_, rfl⟩
    obtain ⟨CS, hCS⟩ : ∃ CS, CS = [I i3, .slice GA3 gn3 gc3, .slice RA3 rn3 rc3, .slice OA3 on3 oc3, I i4, .slice GA4 gn4 gc4, .slice RA4 rn4 rc4, .slice OA4 on4 oc4] := ⟨_, rfl⟩
    rw [← hT]
    rw [← hT, ← hCS] at BN
    rw [← hB] at FV DV
    have HCS := Lib.hid hCS; have HBS := Lib.hid hB
    clear hT hCS hB HSD
    go_loopw [13] (fun j wr => ∃ (k : Nat), k ≤ 2 ∧ j = .int .i64 k ∧ Ext wk wr ∧ Box wr T 26 CS ∧ (k = 0 → ∃ vs, NetV wr B GA3 gn3 gc3 RA3 rn3 rc3 OA3 on3 oc3 vs) ∧ (k ≤ 1 → ∃ vs, NetV wr B GA4 gn4 gc4 RA4 rn4 rc4 OA4 on4 oc4 vs)) (fun j _ => 2 - (intOf j).toNat)
    case atStart => exact ⟨0, by omega, rfl, XN.out, BN.out, fun _ => ⟨_, FV.out⟩, fun _ => ⟨_, DV.out⟩⟩
    case round =>
      obtain ⟨k, hk, rfl, hext, hbx, hF, hD⟩ := hrel
      by_cases hlt : k < 2
      · obtain ⟨GX, gxn, gxc, RX, rxn, rxc, OX, oxn, oxc, vsX, e1, e2, e3, hX, hsg, hsr⟩ : ∃ (GX : Option Addr) (gxn gxc : Nat) (RX : Option Addr) (rxn rxc : Nat) (OX : Option Addr) (oxn oxc : Nat) (vsX : List Value), CS[k * 4 + 1]? = some (.slice GX gxn gxc) ∧ CS[k * 4 + 2]? = some (.slice RX rxn rxc) ∧ CS[k * 4 + 3]? = some (.slice OX oxn oxc) ∧ NetV wr B GX gxn gxc RX rxn rxc OX oxn oxc vsX ∧
            (k = 0 → ∀ b, GX = some ⟨b, 0, none⟩ → (Value.slice GA4 gn4 gc4).ownBlock ≠ some b) ∧ (k = 0 → ∀ b, RX = some ⟨b, 0, none⟩ → (Value.slice RA4 rn4 rc4).ownBlock ≠ some b) := by
          rcases Nat.eq_zero_or_pos k with rfl | hk0
          · obtain ⟨vs, hv⟩ := hF rfl
            exact ⟨GA3, gn3, gc3, RA3, rn3, rc3, OA3, on3, oc3, vs, by rw [HCS.out]; rfl, by rw [HCS.out]; rfl, by rw [HCS.out]; rfl, hv, fun _ => SG.out, fun _ => SR.out⟩
          · obtain rfl : k = 1 := by omega
            obtain ⟨vs, hv⟩ := hD (Nat.le_refl _)
            exact ⟨GA4, gn4, gc4, RA4, rn4, rc4, OA4, on4, oc4, vs, by rw [HCS.out]; rfl, by rw [HCS.out]; rfl, by rw [HCS.out]; rfl, hv, fun e => by omega, fun e => by omega⟩
        have hY : k = 0 → ∃ vs, NetV wr B GA4 gn4 gc4 RA4 rn4 rc4 OA4 on4 oc4 vs := fun e => hD (by omega)
        have E1 := Lib.hid e1; have E2 := Lib.hid e2; have E3 := Lib.hid e3; have HXV := Lib.hid hX; have HSG := Lib.hid hsg; have HSR := Lib.hid hsr; have HY := Lib.hid hY; have HE := Lib.hid hext; have HBX := Lib.hid hbx
        clear e1 e2 e3 hX hsg hsr hY hext hbx hF hD
        go_wp2_with fail
        go_loopw [14] (fun j wr => ∃ (r : Nat) (vs : List Value), r ≤ gxn ∧ j = .int .i64 r ∧ Ext wk wr ∧ Box wr T 26 CS ∧ NetV wr B GX gxn gxc RX rxn rxc OX oxn oxc vs ∧ (k = 0 → ∃ vs, NetV wr B GA4 gn4 gc4 RA4 rn4 rc4 OA4 on4 oc4 vs)) (fun j _ => gxn - (intOf j).toNat)
        case atStart => exact ⟨0, vsX, Nat.zero_le _, rfl, HE.out, HBX.out, HXV.out, HY.out⟩
        case round =>
          obtain ⟨r, vs, hrr, rfl, hext, hbx, hX, hY⟩ := hrel
          have c1 := (hbx.cell (k * 4 + 1)).trans E1.out
          obtain ⟨xs0, hrow⟩ := hX.row
          have hqc : gxn ≤ gxc ∧ gxc ≤ maxLen := by
            obtain ⟨A', c', e, h1, h2, -⟩ := own_slice hrow
            injection e with _ _ e3; subst e3; exact ⟨h1, h2⟩
          have hqm := hqc.1
          have hqn := hqc.2
          unfold maxLen at hqn
          by_cases hlr : r < gxn
          · obtain ⟨v, hv⟩ : ∃ v, vs[r]? = some v := ⟨_, List.getElem?_eq_getElem (by rw [hX.vl]; exact hlr)⟩
            obtain ⟨gb, gbc, eg⟩ := own_form hrow (by omega)
            have eA : GX = some ⟨gb, 0, none⟩ := by injection eg
            clear eg
            subst eA
            obtain ⟨m, ys, hym, hown⟩ := hX.argRow hv
            obtain ⟨Av, cv, rfl, hm1, hm2, -⟩ := own_sl hown
            unfold maxLen at hm2
            obtain ⟨c2, -, -⟩ := hX.cells hv
            have HV := Lib.hid hv; have HE := Lib.hid hext; have HBX := Lib.hid hbx; have HXV := Lib.hid hX; have HY := Lib.hid hY
            clear hv hext hbx hX hY hrow hown hqc hym
            go_wp2_with fail
            clear c1 c2
            go_loopw [15] (fun j wr => ∃ (q : Nat), q ≤ m ∧ j = .int .i64 q ∧ Ext wk wr ∧ Box wr T 26 CS ∧ NetV wr B (some ⟨gb, 0, none⟩) gxn gxc RX rxn rxc OX oxn oxc vs ∧ (k = 0 → ∃ vs, NetV wr B GA4 gn4 gc4 RA4 rn4 rc4 OA4 on4 oc4 vs)) (fun j _ => m - (intOf j).toNat)
            case atStart => exact ⟨0, Nat.zero_le _, rfl, HE.out, HBX.out, HXV.out, HY.out⟩
            case round =>
              obtain ⟨q, hq, rfl, hext, hbx, hX, hY⟩ := hrel
              have c1 := (hbx.cell (k * 4 + 1)).trans E1.out
              obtain ⟨c2, ⟨x0, c3⟩, ⟨x1, c4⟩⟩ := hX.cells HV.out
              by_cases hlq : q < m
              · obtain ⟨m2, ys, hym, hown⟩ := hX.argRow HV.out
                obtain rfl : m = m2 := by
                  obtain ⟨A', c', e, -, -, -⟩ := own_sl hown
                  injection e
                obtain ⟨ab, abc, ea⟩ := own_form hown (by omega)
                have eA : Av = some ⟨ab, 0, none⟩ := by injection ea
                clear ea
                subst eA
                have c5 := hown.cellAt q (by omega)
                obtain ⟨y, hy⟩ : ∃ y, ys[q]? = some y := ⟨_, List.getElem?_eq_getElem (by omega)⟩
                rw [List.getElem?_map, hy, Option.map_some] at c5
                have fz := hown.frozenAt
                have hge : wk.heap.size ≤ ab := by have := (hown.lt ab rfl).1; have := HBS.out; omega
                have HX2 := Lib.hid (hX.int hown q (-1)); have HE2 := Lib.hid (hext.setCell (p := ⟨ab, q, none⟩) hge (I (-1))); have HB2 := Lib.hid (hbx.setOwn (k := q) hown (by decide) (I (-1)))
                have HY2 : Hid (k = 0 → ∃ vs, NetV (wr.setCell ⟨ab, q, none⟩ (I (-1))) B GA4 gn4 gc4 RA4 rn4 rc4 OA4 on4 oc4 vs) := fun e => by
                  obtain ⟨vs', h⟩ := hY e
                  exact ⟨vs', h.int hown q (-1)⟩
                clear hext hbx hX hY hown hge hym hy c3 c4
                go_wp2
                go_roundw
                case rel => exact ⟨q + 1, by omega, by go_num, HE2.out, HB2.out, HX2.out, HY2.out⟩
                case measure => simp [intOf]; omega
              · obtain rfl : m = q := by omega
                obtain ⟨xs, hrow⟩ := hX.row
                have fz := hrow.frozenAt
                have hge : wk.heap.size ≤ gb := by have := (hrow.lt gb rfl).1; have := HBS.out; omega
                have HX2 := Lib.hid (hX.gate hlr 9)
                have HE2 := Lib.hid (((hext.setCell (p := ⟨gb, r * 3, none⟩) hge (I 9)).setCell (p := ⟨gb, r * 3 + 1, none⟩) hge (I 0)).setCell (p := ⟨gb, r * 3 + 2, none⟩) hge (.slice none 0 0))
                have HB2 := Lib.hid (hbx.setOwn3 (k := r * 3) hrow (I 9) (I 0) (.slice none 0 0))
                have HY2 : Hid (k = 0 → ∃ vs, NetV (((wr.setCell ⟨gb, r * 3, none⟩ (I 9)).setCell ⟨gb, r * 3 + 1, none⟩ (I 0)).setCell ⟨gb, r * 3 + 2, none⟩ (.slice none 0 0)) B GA4 gn4 gc4 RA4 rn4 rc4 OA4 on4 oc4 vs) := fun e => by
                  obtain ⟨vs', h⟩ := hY e
                  exact ⟨vs', h.gateOther3 (k := r * 3) hrow (HSG.out e gb rfl) _ _ _⟩
                clear hext hbx hX hY hrow hge
                go_wp2
                go_roundw
                case rel => exact ⟨r + 1, _, by omega, by go_num, HE2.out, HB2.out, HX2.out, HY2.out⟩
                case measure => simp [intOf]; omega
          · obtain rfl : gxn = r := by omega
            have HE := Lib.hid hext; have HBX := Lib.hid hbx; have HXV := Lib.hid hX; have HY := Lib.hid hY
            have c2 := (hbx.cell (k * 4 + 2)).trans E2.out
            clear hext hbx hX hY hrow hqc
            go_wp2_with fail
            clear c1 c2
            go_loopw [16] (fun j wr => ∃ (r : Nat), r ≤ rxn ∧ j = .int .i64 r ∧ Ext wk wr ∧ Box wr T 26 CS ∧ NetV wr B GX gxn gxc RX rxn rxc OX oxn oxc vs ∧ (k = 0 → ∃ vs, NetV wr B GA4 gn4 gc4 RA4 rn4 rc4 OA4 on4 oc4 vs)) (fun j _ => rxn - (intOf j).toNat)
            case atStart => exact ⟨0, Nat.zero_le _, rfl, HE.out, HBX.out, HXV.out, HY.out⟩
            case round =>
              obtain ⟨r, hrr, rfl, hext, hbx, hX, hY⟩ := hrel
              have c2 := (hbx.cell (k * 4 + 2)).trans E2.out
              obtain ⟨xs, hreg⟩ := hX.regs
              have hqc : rxn ≤ rxc ∧ rxc ≤ maxLen := by
                obtain ⟨A', c', e, h1, h2, -⟩ := own_slice hreg
                injection e with _ _ e3; subst e3; exact ⟨h1, h2⟩
              have hqm2 := hqc.1
              have hqn2 := hqc.2
              unfold maxLen at hqn2
              by_cases hlr : r < rxn
              · obtain ⟨rb, rbc, er⟩ := own_form hreg (by omega)
                have eR : RX = some ⟨rb, 0, none⟩ := by injection er
                clear er
                subst eR
                have hxl := hreg.1
                have c3 := hreg.cellAt (r * 2) (by omega); have c4 := hreg.cellAt (r * 2 + 1) (by omega)
                obtain ⟨u0, hu0⟩ : ∃ u, xs[r * 2]? = some u := ⟨_, List.getElem?_eq_getElem (by omega)⟩
                obtain ⟨u1, hu1⟩ : ∃ u, xs[r * 2 + 1]? = some u := ⟨_, List.getElem?_eq_getElem (by omega)⟩
                rw [hu0] at c3; rw [hu1] at c4
                have fz := hreg.frozenAt
                have hge : wk.heap.size ≤ rb := by have := (hreg.lt rb rfl).1; have := HBS.out; omega
                have hst := (hreg.stored (r * 2) (.bool false)).1
                have HX2 := Lib.hid ((hX.reg (r * 2) (.bool false)).reg (r * 2 + 1) (I (-1)))
                have HE2 := Lib.hid ((hext.setCell (p := ⟨rb, r * 2, none⟩) hge (.bool false)).setCell (p := ⟨rb, r * 2 + 1, none⟩) hge (I (-1)))
                have HB2 := Lib.hid ((hbx.setOwn (k := r * 2) hreg (by decide) (.bool false)).setOwn (k := r * 2 + 1) hst (by decide) (I (-1)))
                have HY2 : Hid (k = 0 → ∃ vs, NetV ((wr.setCell ⟨rb, r * 2, none⟩ (.bool false)).setCell ⟨rb, r * 2 + 1, none⟩ (I (-1))) B GA4 gn4 gc4 RA4 rn4 rc4 OA4 on4 oc4 vs) := fun e => by
                  obtain ⟨vs', h⟩ := hY e
                  exact ⟨vs', (h.regOther hreg (HSR.out e rb rfl) _ _).regOther hst (HSR.out e rb rfl) _ _⟩
                clear hext hbx hX hY hreg hqc hxl hu0 hu1 hge hst
                go_wp2
                go_roundw
                case rel => exact ⟨r + 1, by omega, by go_num, HE2.out, HB2.out, HX2.out, HY2.out⟩
                case measure => simp [intOf]; omega
              · obtain rfl : rxn = r := by omega
                have HE := Lib.hid hext; have HBX := Lib.hid hbx; have HXV := Lib.hid hX; have HY := Lib.hid hY
                have c3 := (hbx.cell (k * 4 + 3)).trans E3.out
                clear hext hbx hX hY hreg hqc
                go_wp2_with fail
                clear c2 c3
                go_loopw [17] (fun j wr => ∃ (r : Nat), r ≤ oxn ∧ j = .int .i64 r ∧ Ext wk wr ∧ Box wr T 26 CS ∧ NetV wr B GX gxn gxc RX rxn rxc OX oxn oxc vs ∧ (k = 0 → ∃ vs, NetV wr B GA4 gn4 gc4 RA4 rn4 rc4 OA4 on4 oc4 vs)) (fun j _ => oxn - (intOf j).toNat)
                case atStart => exact ⟨0, Nat.zero_le _, rfl, HE.out, HBX.out, HXV.out, HY.out⟩
                case round =>
                  obtain ⟨r, hrr, rfl, hext, hbx, hX, hY⟩ := hrel
                  have c3 := (hbx.cell (k * 4 + 3)).trans E3.out
                  obtain ⟨ys, hout⟩ := hX.outs
                  have hqc : oxn ≤ oxc ∧ oxc ≤ maxLen := by
                    obtain ⟨A', c', e, h1, h2, -⟩ := own_slice hout
                    injection e with _ _ e3; subst e3; exact ⟨h1, h2⟩
                  have hqm3 := hqc.1
                  have hqn3 := hqc.2
                  unfold maxLen at hqn3
                  by_cases hlr : r < oxn
                  · obtain ⟨ob, obc, er⟩ := own_form hout (by omega)
                    have eO : OX = some ⟨ob, 0, none⟩ := by injection er
                    clear er
                    subst eO
                    have hxl := hout.1
                    have c4 := hout.cellAt r (by omega)
                    obtain ⟨u0, hu0⟩ : ∃ u, (ys.map I)[r]? = some u := ⟨_, List.getElem?_eq_getElem (by omega)⟩
                    rw [hu0] at c4
                    have fz := hout.frozenAt
                    have hge : wk.heap.size ≤ ob := by have := (hout.lt ob rfl).1; have := HBS.out; omega
                    have HX2 := Lib.hid (hX.int hout r (-1))
                    have HE2 := Lib.hid (hext.setCell (p := ⟨ob, r, none⟩) hge (I (-1)))
                    have HB2 := Lib.hid (hbx.setOwn (k := r) hout (by decide) (I (-1)))
                    have HY2 : Hid (k = 0 → ∃ vs, NetV (wr.setCell ⟨ob, r, none⟩ (I (-1))) B GA4 gn4 gc4 RA4 rn4 rc4 OA4 on4 oc4 vs) := fun e => by
                      obtain ⟨vs', h⟩ := hY e
                      exact ⟨vs', h.int hout r (-1)⟩
                    clear hext hbx hX hY hout hqc hxl hu0 hge
                    go_wp2
                    go_roundw
                    case rel => exact ⟨r + 1, by omega, by go_num, HE2.out, HB2.out, HX2.out, HY2.out⟩
                    case measure => simp [intOf]; omega
                  · obtain rfl : oxn = r := by omega
                    have HE := Lib.hid hext; have HBX := Lib.hid hbx; have HY := Lib.hid hY
                    clear hext hbx hX hY hout hqc
                    go_wp2
                    go_roundw
                    case rel => exact ⟨k + 1, by omega, by go_num, HE.out, HBX.out, fun e => by omega, fun e => HY.out (by omega)⟩
                    case measure => simp [intOf]; omega
      · obtain rfl : k = 2 := by omega
        have XM := Lib.hid hext
        obtain ⟨wm, hwm⟩ : ∃ q, q = wr := ⟨_, rfl⟩
        subst hwm
        obtain ⟨q0, q1, q2, q3⟩ := HBox.out.keep (XK.out.trans hext).keeps
        clear hext hbx hF hD
        go_wp2_with fail
        clear hk hlt SG SR DV FV BN HCS HBS XN
        have hM2 : (stepV N regs ins).2 = 0 := by unfold stepV; rw [if_neg (by simp [HA.out])]
        refine (evalStep_any i GA gn gc RA rn rc OA on oc N RB pn pc IA jn jc regs ins wm (HN.out.keep (XK.out.trans XM.out).keeps) (HR.out.keep (XK.out.trans XM.out).keeps) (HI.out.keep (XK.out.trans XM.out).keeps) hpm hjm).mono ?_; rintro e w5 ⟨va, rfl, hown, x5⟩
        have HM2 := Lib.hid hM2
        rw [hM2]
        obtain ⟨l, hl⟩ : ∃ l, l = (stepV N regs ins).1.length := ⟨_, rfl⟩
        rw [← hl] at hown
        obtain ⟨A, ac, rfl, ha1, ha2, -⟩ := own_sl hown
        unfold maxLen at ha2
        have HO := Lib.hid hown; have X5 := Lib.hid x5; have HLL := Lib.hid hl
        clear q0 q1 q2 q3 hown x5 hM2 hl
        go_wp2_with fail
        go_loopw [20] (fun j wr => ∃ (k : Nat), k ≤ l ∧ j = .int .i64 k ∧ Ext wm wr ∧ ∃ ys : List Int, wr.ownsRow wm.heap.size 3 1 (.slice A l ac) l (ys.map I)) (fun j _ => l - (intOf j).toNat)
        case atStart => exact ⟨0, Nat.zero_le _, rfl, X5.out, _, HO.out⟩
        case round =>
          obtain ⟨k, hk, rfl, hext, ys, hown⟩ := hrel
          by_cases hlt : k < l
          · obtain ⟨ab, abc, ea⟩ := own_form hown (by omega)
            have eA : A = some ⟨ab, 0, none⟩ := by injection ea
            clear ea
            subst eA
            have hxl := hown.1
            have c5 := hown.cellAt k (by omega)
            obtain ⟨u0, hu0⟩ : ∃ u, (ys.map I)[k]? = some u := ⟨_, List.getElem?_eq_getElem (by omega)⟩
            rw [hu0] at c5
            have fz := hown.frozenAt
            have hge : wm.heap.size ≤ ab := (hown.lt ab rfl).1
            have HE2 := Lib.hid (hext.setCell (p := ⟨ab, k, none⟩) hge (I 9))
            have hst := (hown.stored k (I 9)).1
            rw [← List.map_set] at hst
            have HS2 := Lib.hid hst
            clear hext hown hxl hu0 hge hst
            go_wp2
            go_roundw
            case rel => exact ⟨k + 1, by omega, by go_num, HE2.out, _, HS2.out⟩
            case measure => simp [intOf]; omega
          · obtain rfl : l = k := by omega
            obtain ⟨we, hwe⟩ : ∃ q, q = wr := ⟨_, rfl⟩
            subst hwe
            obtain ⟨q0, q1, q2, q3⟩ := HBox.out.keep (XK.out.trans (XM.out.trans hext)).keeps
            have XE := Lib.hid (XM.out.trans hext)
            clear hk hlt hext hown HO X5 XM ha1 ha2
            go_wp2_with fail
            clear q0 q1 q2 q3
            refine (fold_any i GA gn gc RA rn rc OA on oc N we (HN.out.keep (XK.out.trans XE.out).keeps)).mono ?_; rintro e w6 ⟨i6, GA6, gn6, gc6, RA6, rn6, rc6, OA6, on6, oc6, vs6, rfl, o6, x6⟩
            rw [HC.out]
            rw [show foldR N = foldN N by unfold foldR; rw [if_pos HC.out]] at o6
            obtain ⟨wf2, hwf, hxf, hbf⟩ := netbox_new w6 i6 GA6 gn6 gc6 RA6 rn6 rc6 OA6 on6 oc6
            have XF2 := Lib.hid (XE.out.trans (x6.trans hxf)); have F6 := Lib.hid (o6.netC.keep hxf.keeps); have FB6 := Lib.hid hbf; have HWF := Lib.hid hwf
            have hq := HBox.out.keep (XK.out.trans XF2.out).keeps
            rw [hwf] at hq
            obtain ⟨q0, q1, q2, q3⟩ := hq
            clear o6 x6 hwf hxf hbf XE
            go_wp2_with fail
            clear q0 q1 q2 q3
            rw [← HWF.out]
            clear HWF
            refine (drop_any i GA gn gc RA rn rc OA on oc N wf2 (HN.out.keep (XK.out.trans XF2.out).keeps)).mono ?_; rintro e w7 ⟨i7, GA7, gn7, gc7, RA7, rn7, rc7, OA7, on7, oc7, vs7, rfl, o7, x7⟩
            rw [HC.out]
            rw [show dropR N = dropN N by unfold dropR; rw [if_pos HC.out]] at o7
            obtain ⟨wd2, hwd, hxd, hbd⟩ := netbox_new w7 i7 GA7 gn7 gc7 RA7 rn7 rc7 OA7 on7 oc7
            have XD2 := Lib.hid (XF2.out.trans (x7.trans hxd)); have D7 := Lib.hid (o7.netC.keep hxd.keeps); have DB7 := Lib.hid hbd; have HWD := Lib.hid hwd
            have XFD := Lib.hid (x7.trans hxd)
            have hq := HBox.out.keep (XK.out.trans XD2.out).keeps
            rw [hwd] at hq
            obtain ⟨q0, q1, q2, q3⟩ := hq
            clear o7 x7 hwd hxd hbd
            go_wp2_with fail
            clear q0 q1 q2 q3
            rw [← HWD.out]
            clear HWD
            refine (evalStep_any i GA gn gc RA rn rc OA on oc N RB pn pc IA jn jc regs ins wd2 (HN.out.keep (XK.out.trans XD2.out).keeps) (HR.out.keep (XK.out.trans XD2.out).keeps) (HI.out.keep (XK.out.trans XD2.out).keeps) hpm hjm).mono ?_; rintro e w8 ⟨vb, rfl, hown, x8⟩
            rw [HM2.out]
            obtain ⟨Ab, bc, rfl, hb1, hb2, hs8⟩ := own_sl hown
            have X8 := Lib.hid x8; have S8 := Lib.hid hs8; have L8 := Lib.hid (Nat.le_trans hb1 hb2)
            obtain ⟨q0, q1, q2, q3⟩ := HBox.out.keep (XK.out.trans (XD2.out.trans x8)).keeps
            clear hown x8 hs8 hb1 hb2
            go_wp2_with fail
            clear q0 q1 q2 q3
            refine (stepOf_any i GA gn gc RA rn rc OA on oc N RB pn pc IA jn jc regs ins w8 (HN.out.keep (XK.out.trans (XD2.out.trans X8.out)).keeps) (HR.out.keep (XK.out.trans (XD2.out.trans X8.out)).keeps) (HI.out.keep (XK.out.trans (XD2.out.trans X8.out)).keeps) hpm hjm hlo).mono ?_; rintro e w9 ⟨vc, rfl, hown, x9⟩
            rw [HM2.out]
            obtain ⟨Ac, cc, rfl, -, -, hs9⟩ := own_sl hown
            have XZ := Lib.hid (XD2.out.trans (X8.out.trans x9)); have X89 := Lib.hid (X8.out.trans x9)
            have T8 := Lib.hid (S8.out.keep x9.keeps); have T9 := Lib.hid hs9
            have hbn := HBox.out.keep (XK.out.trans XZ.out).keeps
            have hbk := KB.out.keep XZ.out.keeps
            have hbf := FB6.out.keep (XFD.out.trans X89.out).keeps
            have hbd := DB7.out.keep X89.out.keeps
            have P0 := Lib.hid hbn.1; have P1 := Lib.hid hbn.2.1; have P2 := Lib.hid hbn.2.2.1; have P3 := Lib.hid hbn.2.2.2
            have K0 := Lib.hid hbk.1; have K1 := Lib.hid hbk.2.1; have K2 := Lib.hid hbk.2.2.1; have K3 := Lib.hid hbk.2.2.2
            have F0 := Lib.hid hbf.1; have F1 := Lib.hid hbf.2.1; have F2 := Lib.hid hbf.2.2.1; have F3 := Lib.hid hbf.2.2.2
            have D0 := Lib.hid hbd.1; have D1 := Lib.hid hbd.2.1; have D2 := Lib.hid hbd.2.2.1; have D3 := Lib.hid hbd.2.2.2
            have PN := Lib.hid (HN.out.keep (XK.out.trans XZ.out).keeps); have KN9 := Lib.hid (KN.out.keep XZ.out.keeps); have FN9 := Lib.hid (F6.out.keep (XFD.out.trans X89.out).keeps); have DN9 := Lib.hid (D7.out.keep X89.out.keeps)
            have XALL := Lib.hid (HX.out.trans (XK.out.trans XZ.out))
            clear hown x9 hs9 hbn hbk hbf hbd X8 S8 XZ X89 XFD XF2 XD2 F6 FB6 D7 DB7 KB KN XF XK X1 HX HW HBox HN HR HI HM2
            generalize (stepV N regs ins).1 = M1 at *
            go_wp2_with fail
            refine wp_flow3 48 0 [isV (.bool true), isV (.bool true), isV (.int .i64 0), isV (.bool true), isV (.bool true), isV (.bool true), isV (.int .i64 0), isV (.bool true), isV (.bool true), isV (.bool true), isV (.int .i64 0), isV (.bool true), isV (.bool true), isV (.bool true), isV (.int .i64 0), isV (.bool true), isV (.bool true), isV (.bool true), isV (.int .i64 0), isV (.bool true), isV (.bool true), isV (.bool true), isV (.int .i64 0), isV (.bool true), isV (.bool true), isV (.bool true), isV (.agg #[I i, .slice GA gn gc, .slice RA rn rc, .slice OA on oc]), isV (.agg #[I i2, .slice GA2 gn2 gc2, .slice RA2 rn2 rc2, .slice OA2 on2 oc2]), isV (.bool true), isV (.bool true), isV (.bool true), isV (.agg #[I i6, .slice GA6 gn6 gc6, .slice RA6 rn6 rc6, .slice OA6 on6 oc6]), isV (.agg #[I i, .slice GA gn gc, .slice RA rn rc, .slice OA on oc]), fun v w => ∃ ix GAx gnx gcx RAx rnx rcx OAx onx ocx vs, v = netV ix GAx gnx gcx RAx rnx rcx OAx onx ocx ∧ NetO w w9.heap.size ix GAx gnx gcx RAx rnx rcx OAx onx ocx (foldN N) vs, isV (.bool true), isV (.bool true), isV (.bool true), isV (.agg #[I i7, .slice GA7 gn7 gc7, .slice RA7 rn7 rc7, .slice OA7 on7 oc7]), isV (.agg #[I i, .slice GA gn gc, .slice RA rn rc, .slice OA on oc]), fun v w => ∃ ix GAx gnx gcx RAx rnx rcx OAx onx ocx vs, v = netV ix GAx gnx gcx RAx rnx rcx OAx onx ocx ∧ NetO w w9.heap.size ix GAx gnx gcx RAx rnx rcx OAx onx ocx (dropN N) vs, isV (.bool true), isV (.bool true), isV (.bool true), isV (.slice Ab M1.length bc), isV (.slice Ac M1.length cc), isV (.bool true), isV (.bool true), isV (.bool true)] (by kernel_rfl) rfl rfl (by kernel_rfl) (by kernel_rfl) ⟨isV_mono, isV_mono, isV_mono, isV_mono, isV_mono, isV_mono, isV_mono, isV_mono, isV_mono, isV_mono, isV_mono, isV_mono, isV_mono, isV_mono, isV_mono, isV_mono, isV_mono, isV_mono, isV_mono, isV_mono, isV_mono, isV_mono, isV_mono, isV_mono, isV_mono, isV_mono, isV_mono, isV_mono, isV_mono, isV_mono, isV_mono, isV_mono, isV_mono, fun v w w' ⟨ix, GAx, gnx, gcx, RAx, rnx, rcx, OAx, onx, ocx, vs, e, h⟩ hx => ⟨ix, GAx, gnx, gcx, RAx, rnx, rcx, OAx, onx, ocx, vs, e, h.ext hx⟩, isV_mono, isV_mono, isV_mono, isV_mono, isV_mono, fun v w w' ⟨ix, GAx, gnx, gcx, RAx, rnx, rcx, OAx, onx, ocx, vs, e, h⟩ hx => ⟨ix, GAx, gnx, gcx, RAx, rnx, rcx, OAx, onx, ocx, vs, e, h.ext hx⟩, isV_mono, isV_mono, isV_mono, isV_mono, isV_mono, isV_mono, isV_mono, isV_mono, trivial⟩ ?each ?rest
            case each =>
              refine .cons ?_ (.cons ?_ (.cons ?_ (.cons ?_ (.cons ?_ (.cons ?_ (.cons ?_ (.cons ?_ (.cons ?_ (.cons ?_ (.cons ?_ (.cons ?_ (.cons ?_ (.cons ?_ (.cons ?_ (.cons ?_ (.cons ?_ (.cons ?_ (.cons ?_ (.cons ?_ (.cons ?_ (.cons ?_ (.cons ?_ (.cons ?_ (.cons ?_ (.cons ?_ (.cons ?_ (.cons ?_ (.cons ?_ (.cons ?_ (.cons ?_ (.cons ?_ (.cons ?_ (.cons ?_ (.cons ?_ (.cons ?_ (.cons ?_ (.cons ?_ (.cons ?_ (.cons ?_ (.cons ?_ (.cons ?_ (.cons ?_ (.cons ?_ (.cons ?_ (.cons ?_ (.cons ?_ (.cons ?_ (.nil))))))))))))))))))))))))))))))))))))))))))))))))
              · intro fa fw hx hs hb
                refine .inl ⟨wanted_free rfl, fun K hK => ?_⟩
                clear hs hb
                go_simp
                refine (sweepBegun_any fw).mono ?_
                rintro e w' ⟨rfl, xq⟩
                exact hK _ _ rfl xq
              · intro fa fw hx hs hb
                obtain ⟨_, s174, rfl⟩ := hs 0 174 (by kernel_rfl) (by kernel_rfl)
                refine .inl ⟨wanted_free rfl, fun K hK => ?_⟩
                clear hs hb hx
                go_simp
                exact hK _ _ rfl (Ext.refl _)
              · intro fa fw hx hs hb
                obtain ⟨_, s175, rfl⟩ := hs 1 175 (by kernel_rfl) (by kernel_rfl)
                have s9 : fa.tmps[(9 : Nat)]? = some (.int .i64 0) := (hb 9 (by kernel_rfl)).trans (by rfl)
                refine .inl ⟨wanted_yes 1 true 175 rfl (by kernel_rfl) s175, fun K hK => ?_⟩
                clear hs hb hx
                go_simp
                exact hK _ _ rfl (Ext.refl _)
              · intro fa fw hx hs hb
                obtain ⟨_, s175, rfl⟩ := hs 1 175 (by kernel_rfl) (by kernel_rfl)
                obtain ⟨_, s176, rfl⟩ := hs 2 176 (by kernel_rfl) (by kernel_rfl)
                refine .inl ⟨wanted_yes 1 true 175 rfl (by kernel_rfl) s175, fun K hK => ?_⟩
                clear hs hb hx
                go_simp
                exact hK _ _ rfl (Ext.refl _)
              · intro fa fw hx hs hb
                obtain ⟨_, s175, rfl⟩ := hs 1 175 (by kernel_rfl) (by kernel_rfl)
                obtain ⟨_, s177, rfl⟩ := hs 3 177 (by kernel_rfl) (by kernel_rfl)
                refine .inl ⟨wanted_free rfl, fun K hK => ?_⟩
                clear hs hb hx
                go_simp
                exact hK _ _ rfl (Ext.refl _)
              · intro fa fw hx hs hb
                obtain ⟨_, s178, rfl⟩ := hs 4 178 (by kernel_rfl) (by kernel_rfl)
                refine .inl ⟨wanted_free rfl, fun K hK => ?_⟩
                clear hs hb hx
                go_simp
                exact hK _ _ rfl (Ext.refl _)
              · intro fa fw hx hs hb
                obtain ⟨_, s179, rfl⟩ := hs 5 179 (by kernel_rfl) (by kernel_rfl)
                have s11 : fa.tmps[(11 : Nat)]? = some (.int .i64 0) := (hb 11 (by kernel_rfl)).trans (by rfl)
                refine .inl ⟨wanted_yes 5 true 179 rfl (by kernel_rfl) s179, fun K hK => ?_⟩
                clear hs hb hx
                go_simp
                exact hK _ _ rfl (Ext.refl _)
              · intro fa fw hx hs hb
                obtain ⟨_, s179, rfl⟩ := hs 5 179 (by kernel_rfl) (by kernel_rfl)
                obtain ⟨_, s180, rfl⟩ := hs 6 180 (by kernel_rfl) (by kernel_rfl)
                refine .inl ⟨wanted_yes 5 true 179 rfl (by kernel_rfl) s179, fun K hK => ?_⟩
                clear hs hb hx
                go_simp
                exact hK _ _ rfl (Ext.refl _)
              · intro fa fw hx hs hb
                obtain ⟨_, s179, rfl⟩ := hs 5 179 (by kernel_rfl) (by kernel_rfl)
                obtain ⟨_, s181, rfl⟩ := hs 7 181 (by kernel_rfl) (by kernel_rfl)
                refine .inl ⟨wanted_free rfl, fun K hK => ?_⟩
                clear hs hb hx
                go_simp
                exact hK _ _ rfl (Ext.refl _)
              · intro fa fw hx hs hb
                obtain ⟨_, s182, rfl⟩ := hs 8 182 (by kernel_rfl) (by kernel_rfl)
                refine .inl ⟨wanted_free rfl, fun K hK => ?_⟩
                clear hs hb hx
                go_simp
                exact hK _ _ rfl (Ext.refl _)
              · intro fa fw hx hs hb
                obtain ⟨_, s183, rfl⟩ := hs 9 183 (by kernel_rfl) (by kernel_rfl)
                have s19 : fa.tmps[(19 : Nat)]? = some (.int .i64 0) := (hb 19 (by kernel_rfl)).trans (by rfl)
                refine .inl ⟨wanted_yes 9 true 183 rfl (by kernel_rfl) s183, fun K hK => ?_⟩
                clear hs hb hx
                go_simp
                exact hK _ _ rfl (Ext.refl _)
              · intro fa fw hx hs hb
                obtain ⟨_, s183, rfl⟩ := hs 9 183 (by kernel_rfl) (by kernel_rfl)
                obtain ⟨_, s184, rfl⟩ := hs 10 184 (by kernel_rfl) (by kernel_rfl)
                refine .inl ⟨wanted_yes 9 true 183 rfl (by kernel_rfl) s183, fun K hK => ?_⟩
                clear hs hb hx
                go_simp
                exact hK _ _ rfl (Ext.refl _)
              · intro fa fw hx hs hb
                obtain ⟨_, s183, rfl⟩ := hs 9 183 (by kernel_rfl) (by kernel_rfl)
                obtain ⟨_, s185, rfl⟩ := hs 11 185 (by kernel_rfl) (by kernel_rfl)
                refine .inl ⟨wanted_free rfl, fun K hK => ?_⟩
                clear hs hb hx
                go_simp
                exact hK _ _ rfl (Ext.refl _)
              · intro fa fw hx hs hb
                obtain ⟨_, s186, rfl⟩ := hs 12 186 (by kernel_rfl) (by kernel_rfl)
                refine .inl ⟨wanted_free rfl, fun K hK => ?_⟩
                clear hs hb hx
                go_simp
                exact hK _ _ rfl (Ext.refl _)
              · intro fa fw hx hs hb
                obtain ⟨_, s187, rfl⟩ := hs 13 187 (by kernel_rfl) (by kernel_rfl)
                have s22 : fa.tmps[(22 : Nat)]? = some (.int .i64 0) := (hb 22 (by kernel_rfl)).trans (by rfl)
                refine .inl ⟨wanted_yes 13 true 187 rfl (by kernel_rfl) s187, fun K hK => ?_⟩
                clear hs hb hx
                go_simp
                exact hK _ _ rfl (Ext.refl _)
              · intro fa fw hx hs hb
                obtain ⟨_, s187, rfl⟩ := hs 13 187 (by kernel_rfl) (by kernel_rfl)
                obtain ⟨_, s188, rfl⟩ := hs 14 188 (by kernel_rfl) (by kernel_rfl)
                refine .inl ⟨wanted_yes 13 true 187 rfl (by kernel_rfl) s187, fun K hK => ?_⟩
                clear hs hb hx
                go_simp
                exact hK _ _ rfl (Ext.refl _)
              · intro fa fw hx hs hb
                obtain ⟨_, s187, rfl⟩ := hs 13 187 (by kernel_rfl) (by kernel_rfl)
                obtain ⟨_, s189, rfl⟩ := hs 15 189 (by kernel_rfl) (by kernel_rfl)
                refine .inl ⟨wanted_free rfl, fun K hK => ?_⟩
                clear hs hb hx
                go_simp
                exact hK _ _ rfl (Ext.refl _)
              · intro fa fw hx hs hb
                obtain ⟨_, s190, rfl⟩ := hs 16 190 (by kernel_rfl) (by kernel_rfl)
                refine .inl ⟨wanted_free rfl, fun K hK => ?_⟩
                clear hs hb hx
                go_simp
                exact hK _ _ rfl (Ext.refl _)
              · intro fa fw hx hs hb
                obtain ⟨_, s191, rfl⟩ := hs 17 191 (by kernel_rfl) (by kernel_rfl)
                have s24 : fa.tmps[(24 : Nat)]? = some (.int .i64 0) := (hb 24 (by kernel_rfl)).trans (by rfl)
                refine .inl ⟨wanted_yes 17 true 191 rfl (by kernel_rfl) s191, fun K hK => ?_⟩
                clear hs hb hx
                go_simp
                exact hK _ _ rfl (Ext.refl _)
              · intro fa fw hx hs hb
                obtain ⟨_, s191, rfl⟩ := hs 17 191 (by kernel_rfl) (by kernel_rfl)
                obtain ⟨_, s192, rfl⟩ := hs 18 192 (by kernel_rfl) (by kernel_rfl)
                refine .inl ⟨wanted_yes 17 true 191 rfl (by kernel_rfl) s191, fun K hK => ?_⟩
                clear hs hb hx
                go_simp
                exact hK _ _ rfl (Ext.refl _)
              · intro fa fw hx hs hb
                obtain ⟨_, s191, rfl⟩ := hs 17 191 (by kernel_rfl) (by kernel_rfl)
                obtain ⟨_, s193, rfl⟩ := hs 19 193 (by kernel_rfl) (by kernel_rfl)
                refine .inl ⟨wanted_free rfl, fun K hK => ?_⟩
                clear hs hb hx
                go_simp
                exact hK _ _ rfl (Ext.refl _)
              · intro fa fw hx hs hb
                obtain ⟨_, s194, rfl⟩ := hs 20 194 (by kernel_rfl) (by kernel_rfl)
                refine .inl ⟨wanted_free rfl, fun K hK => ?_⟩
                clear hs hb hx
                go_simp
                exact hK _ _ rfl (Ext.refl _)
              · intro fa fw hx hs hb
                obtain ⟨_, s195, rfl⟩ := hs 21 195 (by kernel_rfl) (by kernel_rfl)
                have s26 : fa.tmps[(26 : Nat)]? = some (.int .i64 0) := (hb 26 (by kernel_rfl)).trans (by rfl)
                refine .inl ⟨wanted_yes 21 true 195 rfl (by kernel_rfl) s195, fun K hK => ?_⟩
                clear hs hb hx
                go_simp
                exact hK _ _ rfl (Ext.refl _)
              · intro fa fw hx hs hb
                obtain ⟨_, s195, rfl⟩ := hs 21 195 (by kernel_rfl) (by kernel_rfl)
                obtain ⟨_, s196, rfl⟩ := hs 22 196 (by kernel_rfl) (by kernel_rfl)
                refine .inl ⟨wanted_yes 21 true 195 rfl (by kernel_rfl) s195, fun K hK => ?_⟩
                clear hs hb hx
                go_simp
                exact hK _ _ rfl (Ext.refl _)
              · intro fa fw hx hs hb
                obtain ⟨_, s195, rfl⟩ := hs 21 195 (by kernel_rfl) (by kernel_rfl)
                obtain ⟨_, s197, rfl⟩ := hs 23 197 (by kernel_rfl) (by kernel_rfl)
                refine .inl ⟨wanted_free rfl, fun K hK => ?_⟩
                clear hs hb hx
                go_simp
                exact hK _ _ rfl (Ext.refl _)
              · intro fa fw hx hs hb
                obtain ⟨_, s198, rfl⟩ := hs 24 198 (by kernel_rfl) (by kernel_rfl)
                refine .inl ⟨wanted_free rfl, fun K hK => ?_⟩
                clear hs hb hx
                go_simp
                exact hK _ _ rfl (Ext.refl _)
              · intro fa fw hx hs hb
                obtain ⟨_, s199, rfl⟩ := hs 25 199 (by kernel_rfl) (by kernel_rfl)
                have s3 : fa.tmps[(3 : Nat)]? = some (.pointer (some ⟨w.heap.size, 0, none⟩)) := (hb 3 (by kernel_rfl)).trans (by rfl)
                have c0 := hx.keeps _ _ P0.out
                have c1 := hx.keeps _ _ P1.out
                have c2 := hx.keeps _ _ P2.out
                have c3 := hx.keeps _ _ P3.out
                refine .inl ⟨wanted_yes 25 true 199 rfl (by kernel_rfl) s199, fun K hK => ?_⟩
                clear hs hb hx
                go_simp
                exact hK _ _ rfl (Ext.refl _)
              · intro fa fw hx hs hb
                obtain ⟨_, s199, rfl⟩ := hs 25 199 (by kernel_rfl) (by kernel_rfl)
                have s7 : fa.tmps[(7 : Nat)]? = some (.pointer (some ⟨w2.heap.size, 0, none⟩)) := (hb 7 (by kernel_rfl)).trans (by rfl)
                have c0 := hx.keeps _ _ K0.out
                have c1 := hx.keeps _ _ K1.out
                have c2 := hx.keeps _ _ K2.out
                have c3 := hx.keeps _ _ K3.out
                refine .inl ⟨wanted_yes 25 true 199 rfl (by kernel_rfl) s199, fun K hK => ?_⟩
                clear hs hb hx
                go_simp
                exact hK _ _ rfl (Ext.refl _)
              · intro fa fw hx hs hb
                obtain ⟨_, s199, rfl⟩ := hs 25 199 (by kernel_rfl) (by kernel_rfl)
                obtain ⟨_, s200, rfl⟩ := hs 26 200 (by kernel_rfl) (by kernel_rfl)
                obtain ⟨_, s201, rfl⟩ := hs 27 201 (by kernel_rfl) (by kernel_rfl)
                refine .inl ⟨wanted_yes 25 true 199 rfl (by kernel_rfl) s199, fun K hK => ?_⟩
                clear hs hb
                go_simp
                refine (sameNets_any (PN.out.keep hx.keeps) (KN9.out.keep hx.keeps)).mono ?_
                rintro e w' ⟨rfl, xq⟩
                exact hK _ _ rfl xq
              · intro fa fw hx hs hb
                obtain ⟨_, s199, rfl⟩ := hs 25 199 (by kernel_rfl) (by kernel_rfl)
                obtain ⟨_, s202, rfl⟩ := hs 28 202 (by kernel_rfl) (by kernel_rfl)
                refine .inl ⟨wanted_free rfl, fun K hK => ?_⟩
                clear hs hb hx
                go_simp
                exact hK _ _ rfl (Ext.refl _)
              · intro fa fw hx hs hb
                obtain ⟨_, s203, rfl⟩ := hs 29 203 (by kernel_rfl) (by kernel_rfl)
                refine .inl ⟨wanted_free rfl, fun K hK => ?_⟩
                clear hs hb hx
                go_simp
                exact hK _ _ rfl (Ext.refl _)
              · intro fa fw hx hs hb
                obtain ⟨_, s204, rfl⟩ := hs 30 204 (by kernel_rfl) (by kernel_rfl)
                have s21 : fa.tmps[(21 : Nat)]? = some (.pointer (some ⟨w6.heap.size, 0, none⟩)) := (hb 21 (by kernel_rfl)).trans (by rfl)
                have c0 := hx.keeps _ _ F0.out
                have c1 := hx.keeps _ _ F1.out
                have c2 := hx.keeps _ _ F2.out
                have c3 := hx.keeps _ _ F3.out
                refine .inl ⟨wanted_yes 30 true 204 rfl (by kernel_rfl) s204, fun K hK => ?_⟩
                clear hs hb hx
                go_simp
                exact hK _ _ rfl (Ext.refl _)
              · intro fa fw hx hs hb
                obtain ⟨_, s204, rfl⟩ := hs 30 204 (by kernel_rfl) (by kernel_rfl)
                have s3 : fa.tmps[(3 : Nat)]? = some (.pointer (some ⟨w.heap.size, 0, none⟩)) := (hb 3 (by kernel_rfl)).trans (by rfl)
                have c0 := hx.keeps _ _ P0.out
                have c1 := hx.keeps _ _ P1.out
                have c2 := hx.keeps _ _ P2.out
                have c3 := hx.keeps _ _ P3.out
                refine .inl ⟨wanted_yes 30 true 204 rfl (by kernel_rfl) s204, fun K hK => ?_⟩
                clear hs hb hx
                go_simp
                exact hK _ _ rfl (Ext.refl _)
              · intro fa fw hx hs hb
                obtain ⟨_, s204, rfl⟩ := hs 30 204 (by kernel_rfl) (by kernel_rfl)
                obtain ⟨_, s206, rfl⟩ := hs 32 206 (by kernel_rfl) (by kernel_rfl)
                refine .inl ⟨wanted_yes 30 true 204 rfl (by kernel_rfl) s204, fun K hK => ?_⟩
                clear hs hb
                go_simp
                refine (foldOf_any i GA gn gc RA rn rc OA on oc N fw (PN.out.keep hx.keeps) OK.out).mono ?_
                rintro e w' ⟨ix, GAx, gnx, gcx, RAx, rnx, rcx, OAx, onx, ocx, vs, rfl, ho, xq⟩
                exact hK _ _ ⟨ix, GAx, gnx, gcx, RAx, rnx, rcx, OAx, onx, ocx, vs, rfl, ho.base_le hx.size⟩ xq
              · intro fa fw hx hs hb
                obtain ⟨_, s204, rfl⟩ := hs 30 204 (by kernel_rfl) (by kernel_rfl)
                obtain ⟨_, s205, rfl⟩ := hs 31 205 (by kernel_rfl) (by kernel_rfl)
                obtain ⟨_, s207, i207, GA207, gn207, gc207, RA207, rn207, rc207, OA207, on207, oc207, vs207, rfl, q207⟩ := hs 33 207 (by kernel_rfl) (by kernel_rfl)
                refine .inl ⟨wanted_yes 30 true 204 rfl (by kernel_rfl) s204, fun K hK => ?_⟩
                clear hs hb
                go_simp
                refine (sameNets_any (FN9.out.keep hx.keeps) q207.netC).mono ?_
                rintro e w' ⟨rfl, xq⟩
                exact hK _ _ rfl xq
              · intro fa fw hx hs hb
                obtain ⟨_, s204, rfl⟩ := hs 30 204 (by kernel_rfl) (by kernel_rfl)
                obtain ⟨_, s208, rfl⟩ := hs 34 208 (by kernel_rfl) (by kernel_rfl)
                refine .inl ⟨wanted_free rfl, fun K hK => ?_⟩
                clear hs hb hx
                go_simp
                exact hK _ _ rfl (Ext.refl _)
              · intro fa fw hx hs hb
                obtain ⟨_, s209, rfl⟩ := hs 35 209 (by kernel_rfl) (by kernel_rfl)
                refine .inl ⟨wanted_free rfl, fun K hK => ?_⟩
                clear hs hb hx
                go_simp
                exact hK _ _ rfl (Ext.refl _)
              · intro fa fw hx hs hb
                obtain ⟨_, s210, rfl⟩ := hs 36 210 (by kernel_rfl) (by kernel_rfl)
                have s23 : fa.tmps[(23 : Nat)]? = some (.pointer (some ⟨w7.heap.size, 0, none⟩)) := (hb 23 (by kernel_rfl)).trans (by rfl)
                have c0 := hx.keeps _ _ D0.out
                have c1 := hx.keeps _ _ D1.out
                have c2 := hx.keeps _ _ D2.out
                have c3 := hx.keeps _ _ D3.out
                refine .inl ⟨wanted_yes 36 true 210 rfl (by kernel_rfl) s210, fun K hK => ?_⟩
                clear hs hb hx
                go_simp
                exact hK _ _ rfl (Ext.refl _)
              · intro fa fw hx hs hb
                obtain ⟨_, s210, rfl⟩ := hs 36 210 (by kernel_rfl) (by kernel_rfl)
                have s3 : fa.tmps[(3 : Nat)]? = some (.pointer (some ⟨w.heap.size, 0, none⟩)) := (hb 3 (by kernel_rfl)).trans (by rfl)
                have c0 := hx.keeps _ _ P0.out
                have c1 := hx.keeps _ _ P1.out
                have c2 := hx.keeps _ _ P2.out
                have c3 := hx.keeps _ _ P3.out
                refine .inl ⟨wanted_yes 36 true 210 rfl (by kernel_rfl) s210, fun K hK => ?_⟩
                clear hs hb hx
                go_simp
                exact hK _ _ rfl (Ext.refl _)
              · intro fa fw hx hs hb
                obtain ⟨_, s210, rfl⟩ := hs 36 210 (by kernel_rfl) (by kernel_rfl)
                obtain ⟨_, s212, rfl⟩ := hs 38 212 (by kernel_rfl) (by kernel_rfl)
                refine .inl ⟨wanted_yes 36 true 210 rfl (by kernel_rfl) s210, fun K hK => ?_⟩
                clear hs hb
                go_simp
                refine (dropOf_any i GA gn gc RA rn rc OA on oc N fw (PN.out.keep hx.keeps) OK.out).mono ?_
                rintro e w' ⟨ix, GAx, gnx, gcx, RAx, rnx, rcx, OAx, onx, ocx, vs, rfl, ho, xq⟩
                exact hK _ _ ⟨ix, GAx, gnx, gcx, RAx, rnx, rcx, OAx, onx, ocx, vs, rfl, ho.base_le hx.size⟩ xq
              · intro fa fw hx hs hb
                obtain ⟨_, s210, rfl⟩ := hs 36 210 (by kernel_rfl) (by kernel_rfl)
                obtain ⟨_, s211, rfl⟩ := hs 37 211 (by kernel_rfl) (by kernel_rfl)
                obtain ⟨_, s213, i213, GA213, gn213, gc213, RA213, rn213, rc213, OA213, on213, oc213, vs213, rfl, q213⟩ := hs 39 213 (by kernel_rfl) (by kernel_rfl)
                refine .inl ⟨wanted_yes 36 true 210 rfl (by kernel_rfl) s210, fun K hK => ?_⟩
                clear hs hb
                go_simp
                refine (sameNets_any (DN9.out.keep hx.keeps) q213.netC).mono ?_
                rintro e w' ⟨rfl, xq⟩
                exact hK _ _ rfl xq
              · intro fa fw hx hs hb
                obtain ⟨_, s210, rfl⟩ := hs 36 210 (by kernel_rfl) (by kernel_rfl)
                obtain ⟨_, s214, rfl⟩ := hs 40 214 (by kernel_rfl) (by kernel_rfl)
                refine .inl ⟨wanted_free rfl, fun K hK => ?_⟩
                clear hs hb hx
                go_simp
                exact hK _ _ rfl (Ext.refl _)
              · intro fa fw hx hs hb
                obtain ⟨_, s215, rfl⟩ := hs 41 215 (by kernel_rfl) (by kernel_rfl)
                refine .inl ⟨wanted_free rfl, fun K hK => ?_⟩
                clear hs hb hx
                go_simp
                exact hK _ _ rfl (Ext.refl _)
              · intro fa fw hx hs hb
                obtain ⟨_, s216, rfl⟩ := hs 42 216 (by kernel_rfl) (by kernel_rfl)
                have s25 : fa.tmps[(25 : Nat)]? = some (.slice Ab M1.length bc) := (hb 25 (by kernel_rfl)).trans (by rfl)
                refine .inl ⟨wanted_yes 42 true 216 rfl (by kernel_rfl) s216, fun K hK => ?_⟩
                clear hs hb hx
                go_simp
                exact hK _ _ rfl (Ext.refl _)
              · intro fa fw hx hs hb
                obtain ⟨_, s216, rfl⟩ := hs 42 216 (by kernel_rfl) (by kernel_rfl)
                have s27 : fa.tmps[(27 : Nat)]? = some (.slice Ac M1.length cc) := (hb 27 (by kernel_rfl)).trans (by rfl)
                refine .inl ⟨wanted_yes 42 true 216 rfl (by kernel_rfl) s216, fun K hK => ?_⟩
                clear hs hb hx
                go_simp
                exact hK _ _ rfl (Ext.refl _)
              · intro fa fw hx hs hb
                obtain ⟨_, s216, rfl⟩ := hs 42 216 (by kernel_rfl) (by kernel_rfl)
                obtain ⟨_, s217, rfl⟩ := hs 43 217 (by kernel_rfl) (by kernel_rfl)
                obtain ⟨_, s218, rfl⟩ := hs 44 218 (by kernel_rfl) (by kernel_rfl)
                refine .inl ⟨wanted_yes 42 true 216 rfl (by kernel_rfl) s216, fun K hK => ?_⟩
                clear hs hb
                go_simp
                refine (sameInts_any Ab Ac M1.length M1.length bc cc M1 M1 fw (T8.out.keep hx.keeps) (T9.out.keep hx.keeps) L8.out L8.out).mono ?_
                rintro e w' ⟨rfl, mq, rfl⟩
                rw [decide_eq_true (rfl : M1 = M1)]
                exact hK _ _ rfl ((Ext.refl _).drewN _)
              · intro fa fw hx hs hb
                obtain ⟨_, s216, rfl⟩ := hs 42 216 (by kernel_rfl) (by kernel_rfl)
                obtain ⟨_, s219, rfl⟩ := hs 45 219 (by kernel_rfl) (by kernel_rfl)
                refine .inl ⟨wanted_free rfl, fun K hK => ?_⟩
                clear hs hb hx
                go_simp
                exact hK _ _ rfl (Ext.refl _)
              · intro fa fw hx hs hb
                obtain ⟨_, s220, rfl⟩ := hs 46 220 (by kernel_rfl) (by kernel_rfl)
                refine .inl ⟨wanted_free rfl, fun K hK => ?_⟩
                clear hs hb hx
                go_simp
                exact hK _ _ rfl (Ext.refl _)
            case rest =>
              intro wl hxwl
              rintro _ rfl
              rintro _ rfl
              rintro _ rfl
              rintro _ rfl
              rintro _ rfl
              rintro _ rfl
              rintro _ rfl
              rintro _ rfl
              rintro _ rfl
              rintro _ rfl
              rintro _ rfl
              rintro _ rfl
              rintro _ rfl
              rintro _ rfl
              rintro _ rfl
              rintro _ rfl
              rintro _ rfl
              rintro _ rfl
              rintro _ rfl
              rintro _ rfl
              rintro _ rfl
              rintro _ rfl
              rintro _ rfl
              rintro _ rfl
              rintro _ rfl
              rintro _ rfl
              rintro _ rfl
              rintro _ rfl
              rintro _ rfl
              rintro _ rfl
              rintro _ rfl
              rintro _ rfl
              rintro _ rfl
              rintro _ ⟨i207, GA207, gn207, gc207, RA207, rn207, rc207, OA207, on207, oc207, vs207, rfl, q207⟩
              rintro _ rfl
              rintro _ rfl
              rintro _ rfl
              rintro _ rfl
              rintro _ rfl
              rintro _ ⟨i213, GA213, gn213, gc213, RA213, rn213, rc213, OA213, on213, oc213, vs213, rfl, q213⟩
              rintro _ rfl
              rintro _ rfl
              rintro _ rfl
              rintro _ rfl
              rintro _ rfl
              rintro _ rfl
              rintro _ rfl
              rintro _ rfl
              simp only [putAll, List.take, Act.put, List.setIfInBounds_toArray, List.set_cons_zero, List.set_cons_succ]
              refine wpAny_done (by kernel_rfl) ?_ _
              have XL := Lib.hid (XALL.out.trans hxwl)
              clear hxwl
              go_wp2
              go_ret
              exact ⟨rfl, XL.out⟩
  · have hnz : (askedM N regs ins != 0) = true := by simpa using ha
    generalize askedM N regs ins = E at *
    clear ha
    go_wp2_with fail
    refine (sweepBegun_any w1).mono ?_; rintro e w8 ⟨rfl, x8⟩
    go_wp2
    go_ret
    exact ⟨rfl, HX.out.trans (X1.out.trans x8)⟩
end
end Go.Proofs.Ytjagbnaacfhokaa
