/- A tick of the desk, by the program. -/
import Derived.Test.YtgohhcnmkomafaaDoorDt06
import Derived.Test.YtgohhcnmkomafaaDoorDt01
import Derived.Deep.DeepCutAuto
import Derived.Deep.RegionWith
import Derived.Test.YtgohhcnmkomafaaDoorDt02
import Derived.Maps.OwnSet
import Derived.Maps.StringElems
import Derived.Maps.Views
import Derived.RegionTactic
import Derived.Deep.RegionHeld3
import Derived.Laws.RangeString
import Derived.Laws.RangeAny
namespace Go.Proofs.YtgohhcnmkomafaaDoor
set_option linter.unusedVariables false
set_option linter.unusedSimpArgs false
set_option linter.unusedVariables false
set_option linter.unusedSimpArgs false
set_option maxRecDepth 100000
open Go.RowKit
theorem Ext.grown {w w' : World} (h : Ext w w') (row : Option Nat) : w.grownBy w' row := ⟨h.os, h.tape, h.output, h.size, fun k hk _ => h.block k hk⟩
theorem grown_trans {a b c : World} {row : Option Nat} (h : a.grownBy b row) (k : b.grownBy c row) : a.grownBy c row :=
  ⟨k.os.trans h.os, k.tape.trans h.tape, k.output.trans h.output, Nat.le_trans h.size k.size, fun i hi hr => (k.block i (Nat.lt_of_lt_of_le hi h.size) hr).trans (h.block i hi hr)⟩
theorem grown_set (w : World) (D j : Nat) (v : Value) : w.grownBy (w.setCell ⟨D, j, none⟩ v) (some D) :=
  ⟨rfl, rfl, rfl, by simp [World.setCell], fun k _ hk => Below.heap_setCell _ _ _ _ (fun e => hk (by simp at e; rw [e]))⟩
theorem RestC.grown2 {w w' : World} {row : Option Nat} {fr : Bool} {g1 g2 wn wc on oc : Nat} {r : RestM} (h : RestC w fr (some ⟨g1, 0, none⟩) wn wc (some ⟨g2, 0, none⟩) on oc r) (hk : ∀ k o, w.heap[k]? = some o → (k = g1 ∨ k = g2) → w'.heap[k]? = some o) :
    RestC w' fr (some ⟨g1, 0, none⟩) wn wc (some ⟨g2, 0, none⟩) on oc r := by
  have one : ∀ (g m : Nat) (cs : List Value), (g = g1 ∨ g = g2) → Sl w (some ⟨g, 0, none⟩) m cs → Sl w' (some ⟨g, 0, none⟩) m cs := fun g m cs hg hs => ⟨hs.1, fun k u hu => by
    obtain ⟨b, off, e, hc⟩ := hs.2 k u hu
    refine ⟨b, off, e, ?_⟩
    injection e with e; injection e with e1 e2; subst e1; subst e2
    have hlt := lt_of_cell hc
    obtain ⟨o, ho⟩ : ∃ o, w.heap[g]? = some o := ⟨_, Array.getElem?_eq_getElem hlt⟩
    exact (World.cell?_of_block (a := ⟨g, 0 + k, none⟩) ((hk g o ho hg).trans ho.symm)).trans hc⟩
  exact ⟨h.fresh, one g1 _ _ (.inl rfl) h.waits, one g2 _ _ (.inr rfl) h.outs, h.wl, h.ol⟩
/-- The table, in its block D: the program, and the rest. -/
structure TblW (w : World) (D : Nat) (PA : Option Addr) (n pc : Nat) (t : Tr) (r : RestM) (fr : Bool) (g1 g2 : Nat) : Prop where
  box : Box w D 53 [.slice PA n pc, Bv fr, .slice (some ⟨g1, 0, none⟩) n n, .slice (some ⟨g2, 0, none⟩) 3 3]
  rest : RestC w fr (some ⟨g1, 0, none⟩) n n (some ⟨g2, 0, none⟩) 3 3 r
  nodes : SlN w PA n t.flat
  d1 : D ≠ g1
  d2 : D ≠ g2
  dp : ∀ a, PA = some a → D ≠ a.block
theorem TblW.cells {w : World} {D : Nat} {PA : Option Addr} {n pc : Nat} {t : Tr} {r : RestM} {fr : Bool} {g1 g2 : Nat} (h : TblW w D PA n pc t r fr g1 g2) :
    w.cell? ⟨D, 0, none⟩ = some (.slice PA n pc) ∧ w.cell? ⟨D, 1, none⟩ = some (Bv fr) ∧ w.cell? ⟨D, 2, none⟩ = some (.slice (some ⟨g1, 0, none⟩) n n) ∧ w.cell? ⟨D, 3, none⟩ = some (.slice (some ⟨g2, 0, none⟩) 3 3) ∧ ∀ j, w.frozen? ⟨D, j, none⟩ = false :=
  ⟨(h.box.cell 0).trans rfl, (h.box.cell 1).trans rfl, (h.box.cell 2).trans rfl, (h.box.cell 3).trans rfl, h.box.free⟩
theorem TblW.ext {w w' : World} {D : Nat} {PA : Option Addr} {n pc : Nat} {t : Tr} {r : RestM} {fr : Bool} {g1 g2 : Nat} (h : TblW w D PA n pc t r fr g1 g2) (hx : Ext w w') : TblW w' D PA n pc t r fr g1 g2 :=
  ⟨h.box.ext hx, h.rest.keep hx.keeps, h.nodes.keep hx.keeps, h.d1, h.d2, h.dp⟩
theorem Sl2.far' {w : World} {A : Option Addr} {n : Nat} {ps : List PNode} (h : SlN w A n ps) {g j : Nat} (hg : ∀ a, A = some a → g ≠ a.block) (v : Value) : SlN (w.setCell ⟨g, j, none⟩ v) A n ps :=
  ⟨h.1, fun k x hx => by
    obtain ⟨b, off, e, c0, c1⟩ := h.2 k x hx
    have hne := hg _ e
    exact ⟨b, off, e, by rw [World.cell?_setCell_far _ _ _ _ hne]; exact c0, by rw [World.cell?_setCell_far _ _ _ _ hne]; exact c1⟩⟩
set_option maxHeartbeats 8000000 in
theorem dtick_any (D : Nat) (PA : Option Addr) (n pc : Nat) (t : Tr) (r : RestM) (fr : Bool) (g1 g2 : Nat) (x : Nat) (w : World) (h : TblW w D PA n pc t r fr g1 g2) (ok : t.ok) (hg : ∀ y ∈ t.flat, goodN y) (hs : t.size ≤ 14) (hr : RestOK t r) (hx : x < 8) :
    Calls Tryd.prog 46 #[.pointer (some ⟨D, 0, none⟩), I x] w fun e w' => ∃ p1 p2, e = .returned (S (listedT (tickW (turnR t r x).outs (turnM t r x).1))) ∧ TblW w' D PA n pc t (turnR t r x) false p1 p2 ∧ w.grownBy w' (some D) := by
  have T0 := turn_any PA n pc t fr (some ⟨g1, 0, none⟩) n n (some ⟨g2, 0, none⟩) 3 3 r x w.drew (h.nodes.keep ((Ext.refl w).drew).keeps) ok hg hs (h.rest.keep ((Ext.refl w).drew).keeps) hr.wl hr.ol hr.wo (by omega) (by omega)
  obtain ⟨c0, c1, c2, c3, cf⟩ := h.cells
  have hbd := h.box.ext ((Ext.refl w).drew)
  have hlt := h.box.lt
  have T2 := T0.mono (R' := fun e w' => TurnOK w.drew w' n e (turnM t r x) ∧ (∀ j, w'.frozen? ⟨D, j, none⟩ = false) ∧ (w'.cell? ⟨D, 1, none⟩ = some (Bv fr) ∧ w'.cell? ⟨D, 2, none⟩ = some (.slice (some ⟨g1, 0, none⟩) n n) ∧ w'.cell? ⟨D, 3, none⟩ = some (.slice (some ⟨g2, 0, none⟩) 3 3)) ∧ Hid (Box w' D 53 [.slice PA n pc, Bv fr, .slice (some ⟨g1, 0, none⟩) n n, .slice (some ⟨g2, 0, none⟩) 3 3])) (fun e w' hh => ⟨hh, by
    obtain ⟨_, _, _, _, _, _, hx⟩ := hh
    have hb := hbd.ext hx
    exact ⟨hb.free, ⟨(hb.cell 1).trans rfl, (hb.cell 2).trans rfl, (hb.cell 3).trans rfl⟩, hb⟩⟩)
  have H := Lib.hid h
  obtain ⟨M, hM⟩ : ∃ M, M = turnM t r x := ⟨_, rfl⟩
  have hR : turnR t r x = ⟨false, M.2.W, M.2.O⟩ := by rw [hM]; rfl
  have hol : M.2.O.length = 3 := by rw [hM]; exact (turn_len t r x).2
  rw [← hM] at T2
  rw [hR, ← hM]
  have HR := Lib.hid hR; have HOL := Lib.hid hol
  clear hM hR h hbd T0 hol
  go_enter Tryd.func46, Tryd.ntmps46
  go_upto_region 2 with fail
  go_cut [5] (fun s5 wx => ∃ p1 p2 : Nat, s5 = .bool M.1 ∧ TblW wx D PA n pc t ⟨false, M.2.W, M.2.O⟩ false p1 p2 ∧ w.grownBy wx (some D))
  case first =>
    go_region_with
      (first | (go_at_call 14; (with_reducible refine T2.mono ?_); rintro e wz ⟨⟨p1, p2, rfl, hp1, hp2, hrc, xz⟩, yf, ⟨y1, y2, y3⟩, hby⟩))
    all_goals go_wp2_with fail
    all_goals go_meet
    all_goals
      have h := H.out
      have e1 : D ≠ p1 := Nat.ne_of_lt (Nat.lt_of_lt_of_le hlt hp1)
      have e2 : D ≠ p2 := Nat.ne_of_lt (Nat.lt_of_lt_of_le hlt hp2)
      have hb := hby.out
      have hx1 : Ext w wz := ((Ext.refl w).drew).trans xz
      refine ⟨p1, p2, rfl, ⟨((hb.set 1 _).set 2 _).set 3 _, ((hrc.far e1 e2 _).far e1 e2 _).far e1 e2 _, (((h.nodes.keep hx1.keeps).far' h.dp _).far' h.dp _).far' h.dp _, e1, e2, h.dp⟩, ?_⟩
      exact grown_trans (grown_trans (grown_trans (hx1.grown _) (grown_set _ D 1 _)) (grown_set _ D 2 _)) (grown_set _ D 3 _)
  case rest =>
    obtain ⟨p1, p2, rfl, htb, hgr⟩ := hcut
    obtain ⟨k0, k1, k2, k3, kf⟩ := htb.cells
    have HT := Lib.hid htb; have HGR := Lib.hid hgr
    have HOU := Lib.hid htb.rest.outs
    clear htb hgr c0 c1 c2 c3 cf T2 H
    go_wp2_with fail
    obtain ⟨wb, hwb⟩ : ∃ q, q = wc := ⟨_, rfl⟩
    subst hwb
    go_loopw [6, 31] (fun v i wr => ∃ (k : Nat) (ws : List (List UInt8)), k ≤ 3 ∧ i = .int .i64 k ∧ Ext wb wr ∧ ws.length ≤ k ∧ (∀ x ∈ ws, x.length ≤ 4) ∧ wr.ownsRow wb.heap.size 9 1 v ws.length (ws.map S) ∧ ws ++ outW (M.2.O.drop k) k = outW M.2.O 0) (fun _ i _ => 3 - (intOf i).toNat)
    case atStart => exact ⟨0, [], Nat.zero_le _, rfl, Ext.refl _, Nat.zero_le _, by simp, World.ownsRow_nil _ _ _ _, rfl⟩
    case round =>
      obtain ⟨k, ws, hk, rfl, hext, hwl, hwb, hown, hMM⟩ := hrel
      by_cases hlt3 : k < 3
      · obtain ⟨b, off, y, hbe, hc0, hy⟩ := HOU.out.at_ hlt3
        injection hbe with hbe
        injection hbe with hb1 hb2 _
        subst hb1; subst hb2
        have hc := hext.keeps _ _ hc0
        rw [Nat.zero_add] at hc
        obtain ⟨hkl, hye⟩ := List.getElem?_eq_some_iff.1 hy
        have hd : M.2.O.drop k = y :: M.2.O.drop (k + 1) := by rw [List.drop_eq_getElem_cons hkl, hye]
        rw [hd, outW] at hMM
        have HM := Lib.hid hMM; have HO := Lib.hid hown; have HWB := Lib.hid hwb; have HE := Lib.hid hext
        clear hMM hown hd hy hc0 hwb hkl hye hext
        have hk3 : k = 0 ∨ k = 1 ∨ k = 2 := by omega
        cases y
        · go_wp2_with fail
          go_roundw
          case rel => exact ⟨k + 1, ws, by omega, by go_num, HE.out, by omega, HWB.out, HO.out, by simpa using HM.out⟩
          case measure => simp [intOf]; omega
        · rcases hk3 with rfl | rfl | rfl
          · go_wp2_with (at_builtin; refine wpList_push rfl (.tmp 37) (.tmp 42) 90 9 rfl tab_str Tryd.underlying90 rfl (by omega) wb wr HE.out _ ws.length _ rfl HO.out [S [65]] rfl rfl rfl (by simp [Value.oneCell']) (by unfold maxLen; omega) (by omega) ?_; intro v' w2 hown2 hx3 _)
            go_roundw
            case rel => exact ⟨1, ws ++ [[65]], by omega, by go_num, hx3, by rw [List.length_append]; simp only [List.length_cons, List.length_nil]; omega, fun x hx => by
              rcases List.mem_append.1 hx with h | h
              · exact HWB.out x h
              · simp at h; subst h; decide, by simpa using hown2, by simpa using HM.out⟩
            case measure => simp [intOf]
          · go_wp2_with (at_builtin; refine wpList_push rfl (.tmp 37) (.tmp 42) 90 9 rfl tab_str Tryd.underlying90 rfl (by omega) wb wr HE.out _ ws.length _ rfl HO.out [S [66]] rfl rfl rfl (by simp [Value.oneCell']) (by unfold maxLen; omega) (by omega) ?_; intro v' w2 hown2 hx3 _)
            go_roundw
            case rel => exact ⟨2, ws ++ [[66]], by omega, by go_num, hx3, by rw [List.length_append]; simp only [List.length_cons, List.length_nil]; omega, fun x hx => by
              rcases List.mem_append.1 hx with h | h
              · exact HWB.out x h
              · simp at h; subst h; decide, by simpa using hown2, by simpa using HM.out⟩
            case measure => simp [intOf]
          · go_wp2_with (at_builtin; refine wpList_push rfl (.tmp 37) (.tmp 42) 90 9 rfl tab_str Tryd.underlying90 rfl (by omega) wb wr HE.out _ ws.length _ rfl HO.out [S [67]] rfl rfl rfl (by simp [Value.oneCell']) (by unfold maxLen; omega) (by omega) ?_; intro v' w2 hown2 hx3 _)
            go_roundw
            case rel => exact ⟨3, ws ++ [[67]], by omega, by go_num, hx3, by rw [List.length_append]; simp only [List.length_cons, List.length_nil]; omega, fun x hx => by
              rcases List.mem_append.1 hx with h | h
              · exact HWB.out x h
              · simp at h; subst h; decide, by simpa using hown2, by simpa using HM.out⟩
            case measure => simp [intOf]
      · have hk3 : k = 3 := by omega
        subst hk3
        have hws : ws = outW M.2.O 0 := by
          rw [List.drop_eq_nil_of_le (by have := HOL.out; omega)] at hMM
          simpa [outW] using hMM
        have HE := Lib.hid hext; have HO := Lib.hid hown; have HWS := Lib.hid hws; have HWB := Lib.hid hwb
        clear hMM hown hext hws hwb
        obtain ⟨ov, hov⟩ : ∃ b, M.1 = b := ⟨_, rfl⟩
        rw [hov]
        cases ov
        · have HOV := Lib.hid hov
          clear hov
          obtain ⟨A, c, rfl, h1, h2, hs'⟩ := own_sl HO.out
          have HLI := Lib.hid (listed_any A ws.length c ws wr hs' (by omega) h1 HWB.out)
          clear h1 h2 hs'
          go_wp2_with fail
          refine HLI.out.mono ?_; rintro e w1 ⟨rfl, hx⟩
          go_wp2
          go_ret
          refine ⟨p1, p2, by rw [HWS.out, tickW, HOV.out]; simp, HT.out.ext (HE.out.trans hx), grown_trans HGR.out ((HE.out.trans hx).grown _)⟩
        · have HOV := Lib.hid hov
          clear hov
          go_wp2_with (at_builtin; refine wpList_push rfl (.tmp 46) (.tmp 47) 90 9 rfl tab_str Tryd.underlying90 rfl (by omega) wb wr HE.out _ ws.length _ rfl HO.out [S overB] rfl rfl rfl (by simp [Value.oneCell']) (by unfold maxLen; omega) (by omega) ?_; intro v' w2 hown2 hx3 _)
          have hown3 : w2.ownsRow wb.heap.size 9 1 v' (ws ++ [overB]).length ((ws ++ [overB]).map S) := by simpa using hown2
          obtain ⟨A, c, rfl, h1, h2, hs'⟩ := own_sl hown3
          have HLI := Lib.hid (listed_any A (ws ++ [overB]).length c (ws ++ [overB]) w2 hs' (by simp; omega) h1 (fun x hx => by
            rcases List.mem_append.1 hx with h | h
            · exact HWB.out x h
            · simp at h; subst h; decide))
          have HX3 := Lib.hid hx3
          clear h1 h2 hs' hown2 hown3 hx3
          go_wp2_with fail
          refine HLI.out.mono ?_; rintro e w1 ⟨rfl, hx⟩
          go_wp2
          go_ret
          refine ⟨p1, p2, by rw [HWS.out, tickW, HOV.out]; simp, HT.out.ext (HX3.out.trans hx), grown_trans HGR.out ((HX3.out.trans hx).grown _)⟩
end Go.Proofs.YtgohhcnmkomafaaDoor
/- A map of strings, keyed by integers, that the call itself makes: its entries as a function. -/
namespace Go.Proofs.YtgohhcnmkomafaaDoor
set_option linter.unusedVariables false
set_option linter.unusedSimpArgs false
set_option maxRecDepth 100000
open Go.RowKit Go.Maps
/-- Block b is a map of at most n entries; at k stands f k ("" where there is none). -/
def MapS (w : World) (b n : Nat) (f : Int → List UInt8) : Prop :=
  ∃ D : DataW Unit, w.ownsMap Tryd.prog 3 (plainElem Tryd.prog 9) b n D ∧ IsMap D ∧ ∀ k, D.atKey (.int .i64 k) (.lit (.string [])) = .lit (.string (f k))
theorem mapS_law : Keyed Tryd.prog 3 := int_keyed Tryd.underlying3
theorem MapS.made (w : World) : MapS (w.alloc (.map #[] 0)) w.heap.size 0 (fun _ => []) := ⟨.map [], World.ownsMap_made _ _ _ _, isMap_empty, fun _ => rfl⟩
theorem isKey_int (k : Int) : WideAt.IsKeyLit (.int .i64 k) := by trivial
theorem zero_string (w : World) : (zeroValue 9).run Tryd.prog w = .ok (.string ⟨#[]⟩) w := by kernel_rfl
theorem wpList_insertS {w : World} {ops : Array Oper} {rest : List Oper} {o : Oper} {a : Act} {Q : Exit → Act → World → Prop}
    (hg : o.guard = none) (m x v : Operand) (hop : o.op = Op.insert 77 m x v) (b n : Nat) (f : Int → List UInt8) (hm : a.eval m = .map (some b)) (hown : MapS w b n f) (hn : n < maxLen)
    (k : Int) (s : List UInt8) (hx : a.eval x = I k) (hv : a.eval v = S s) (hk : (Lit.int .i64 k).wf = true) (hs : s.length ≤ maxLen)
    (hK : ∀ w', MapS w' b (n + 1) (fun j => if j = k then s else f j) → w.grownBy w' (some b) → wpList Tryd.prog ops Q rest (a.put o.dst undef) w') :
    wpList Tryd.prog ops Q (o :: rest) a w := by
  obtain ⟨D, hD, hi, hf⟩ := hown
  refine wpList_plain hg fun K' hK' => ?_
  obtain ⟨w', hrun, r1, r2⟩ := hD.update mapS_law Tryd.underlying77 hn (keyOf_int_mk Tryd.underlying3 hk) (plainElem_string (H := Unit) Tryd.underlying9 (s := ⟨s.toArray⟩) (by simpa [ByteArray.size] using hs))
  unfold Oper.wp
  simp [execOp, hop, hm, hx, hv, hrun, Result.andThen]
  refine hK' _ _ (hK w' ⟨_, r1, hi.put _ _, fun j => ?_⟩ r2)
  by_cases e : j = k
  · subst e; rw [atKey_put_same hi (isKey_int j)]; simp
  · rw [atKey_put_other (fun h => e (by injection h)), hf]; simp [e]
theorem wpList_lookupS {w : World} {ops : Array Oper} {rest : List Oper} {o : Oper} {a : Act} {Q : Exit → Act → World → Prop}
    (hg : o.guard = none) (m x : Operand) (hop : o.op = Op.lookup 77 m x false) (b n : Nat) (f : Int → List UInt8) (hm : a.eval m = .map (some b)) (hown : MapS w b n f)
    (k : Int) (hx : a.eval x = I k) (hk : (Lit.int .i64 k).wf = true) (l : List UInt8) (hl : f k = l) (hK : wpList Tryd.prog ops Q rest (a.put o.dst (S l)) w) : wpList Tryd.prog ops Q (o :: rest) a w := by
  subst hl
  obtain ⟨D, hD, hi, hf⟩ := hown
  refine wpList_plain hg fun K' hK' => ?_
  obtain ⟨v, ps, hrun, hv⟩ := hD.lookup mapS_law Tryd.underlying77 (zero_string w) (plainElem_string (H := Unit) Tryd.underlying9 (s := ⟨#[]⟩) (by simp [ByteArray.size])) (keyOf_int_mk Tryd.underlying3 hk)
  obtain ⟨s, rfl, hz, -⟩ := plainElem_string_inv Tryd.underlying9 hv
  simp only [Prod.mk.injEq] at hz
  have h2 := hz.1
  rw [hf k] at h2
  have h3 : f k = s.data.toList := by injection h2 with h2; injection h2
  have h4 : s = ⟨(f k).toArray⟩ := by rw [h3]
  unfold Oper.wp
  simp [execOp, hop, hm, hx, hrun, Result.andThen]
  rw [h4]
  exact hK' _ _ hK
end Go.Proofs.YtgohhcnmkomafaaDoor
/- A program's text, by the program. -/
namespace Go.Proofs.YtgohhcnmkomafaaDoor
set_option linter.unusedVariables false
set_option linter.unusedSimpArgs false
open Go.RowKit
def pickT (kd : Int) (sg : Int) (one two : List UInt8) : List UInt8 :=
  if kd = 8 then wWas ++ [letter 65 sg] ++ (wThen ++ one ++ wElse ++ two ++ wEnd)
  else if kd = 7 then wIf ++ [letter 120 sg] ++ (wThen ++ one ++ wElse ++ two ++ wEnd)
  else if kd = 6 then wOpen ++ one ++ wBar ++ two ++ wClose
  else if kd = 5 then wOpen ++ one ++ wSemi ++ two ++ wClose
  else if kd = 4 then wAwait ++ [letter 120 sg]
  else if kd = 3 then wEmit ++ [letter 65 sg]
  else if kd = 2 then wHalt else if kd = 1 then wPause else if kd = 0 then wNothing else []
theorem pick_leaf {x : PNode} (h : x.kind = 0 ∨ x.kind = 1 ∨ x.kind = 2 ∨ x.kind = 3 ∨ x.kind = 4) : pickT x.kind x.sig [] [] = textT (.leaf x) := by
  obtain ⟨kd, sg⟩ := x
  simp only at h
  rcases h with rfl | rfl | rfl | rfl | rfl <;> simp [pickT, textT, leafText]
theorem pick_two {x : PNode} (a b : Tr) (h : x.kind = 5 ∨ x.kind = 6 ∨ x.kind = 7 ∨ x.kind = 8) : pickT x.kind x.sig (textT a) (textT b) = textT (.two x a b) := by
  obtain ⟨kd, sg⟩ := x
  simp only at h
  rcases h with rfl | rfl | rfl | rfl <;> simp [pickT, textT, twoText]
theorem strV {x : ByteArray} {l : List UInt8} (h : x = ⟨l.toArray⟩) : Value.string x = S l := by rw [h]
set_option maxRecDepth 100000 in
set_option maxHeartbeats 4000000 in
theorem node_step (A : Option Addr) (n c : Nat) (p : List PNode) (hn : n ≤ 60000) (k : Nat) (x : PNode) (ta tb : List UInt8) (w : World) (h : SlN w A n p) (hx : p[k]? = some x) (hsg : x.sig = 0 ∨ x.sig = 1 ∨ x.sig = 2)
    (hkd : 0 ≤ x.kind ∧ x.kind ≤ 8) (la : ta.length ≤ 2000000) (lb : tb.length ≤ 2000000)
    (hr : (two x.kind = false ∧ ta = [] ∧ tb = []) ∨ (two x.kind = true ∧ (∀ Q, SlN Q A n p → Calls Tryd.prog 11 #[.slice A n c, I (ofP p k).1] Q fun e w' => e = .returned (S ta) ∧ Ext Q w') ∧ (∀ Q, SlN Q A n p → Calls Tryd.prog 11 #[.slice A n c, I (ofP p k).2.1] Q fun e w' => e = .returned (S tb) ∧ Ext Q w'))) :
    Calls Tryd.prog 11 #[.slice A n c, I k] w fun e w' => e = .returned (S (pickT x.kind x.sig ta tb)) ∧ Ext w w' := by
  have hkn : k < n := by have := h.1; have := (List.getElem?_eq_some_iff.1 hx).1; omega
  have PO := Lib.hid (fun Q (hQ : SlN Q A n p) => progOf_any A n c p k Q hQ hn hkn)
  have H := Lib.hid h
  obtain ⟨b, off, rfl, g0, g1⟩ := h.2 k x hx
  have hmm := @run_makeMap Tryd.prog
  obtain ⟨kd, sg⟩ := x
  simp only at hsg g0 g1 hr hkd
  obtain ⟨w1, hw1⟩ : ∃ w1, w1 = w.alloc (.cells #[I kd, I sg] 70) := ⟨_, rfl⟩
  have hx1 : Ext w w1 := by rw [hw1]; exact (Ext.refl _).alloc _
  have d0 : w1.cell? ⟨w.heap.size, 0, none⟩ = some (I kd) := by rw [hw1, World.cell?_alloc_new]; rfl
  have d1 : w1.cell? ⟨w.heap.size, 1, none⟩ = some (I sg) := by rw [hw1, World.cell?_alloc_new]; rfl
  have hwf : (Lit.int .i64 kd).wf = true := WalkArith.wf_i64 (by omega)
  generalize ofP p k = O at *
  have X1 := Lib.hid hx1; have HW1 := Lib.hid hw1; have D0 := Lib.hid d0; have D1 := Lib.hid d1; have HR := Lib.hid hr; have HWF := Lib.hid hwf; have LA := Lib.hid la; have LB := Lib.hid lb
  clear hx h hx1 hw1 d0 d1 hr hkd hwf la lb
  go_enter Tryd.func11, Tryd.ntmps11
  go_upto_region 2 with fail
  rw [← HW1.out]
  have d1 := D1.out
  go_cut [6, 7] (fun s6 s7 wx => s6 = S [letter 120 sg] ∧ s7 = S [letter 65 sg] ∧ Ext w1 wx)
  case first =>
    go_region_held3 (fun w' => w'.cell? ⟨w.heap.size, 1, none⟩ = some (I sg)) (exact d1)
      (first
        | (go_at_call 27; refine (letter_any 120 sg (.inr rfl) hsg _).mono ?_; rintro e w' ⟨rfl, rfl⟩)
        | (go_at_call 27; refine (letter_any 65 sg (.inl rfl) hsg _).mono ?_; rintro e w' ⟨rfl, rfl⟩))
    all_goals go_wp2_with fail
    all_goals go_meet
    all_goals exact ⟨rfl, rfl, (Ext.refl _).drew⟩
  case rest =>
  obtain ⟨rfl, rfl, xc⟩ := hcut
  rename World => wB
  have XC := Lib.hid xc
  have e0 := xc.keeps _ _ D0.out
  have E0 := Lib.hid e0
  clear xc d1 g0 g1 hsg
  go_wp2_with fail
  refine (PO.out wB (H.out.keep (X1.out.trans XC.out).keeps)).mono ?_; rintro e w' ⟨rfl, rfl⟩
  go_wp2_with fail
  refine (two_any _ _).mono ?_; rintro e w' ⟨rfl, rfl⟩
  go_upto_if 33 with fail
  go_cut [8, 9] (fun s8 s9 wx => s8 = S ta ∧ s9 = S tb ∧ Ext wB wx)
  case first =>
    have hr := HR.out
    rcases hr with ⟨h2, rfl, rfl⟩ | ⟨h2, ha, hb⟩
    · rw [h2]
      go_wp2_with fail
      go_meet
      exact ⟨rfl, rfl, Ext.refl _⟩
    · rw [h2]
      have HA := Lib.hid ha; have HB := Lib.hid hb
      clear ha hb
      go_wp2_with fail
      refine (HA.out wB (H.out.keep (X1.out.trans XC.out).keeps)).mono ?_; rintro e w2 ⟨rfl, x2⟩
      go_wp2_with fail
      refine (HB.out w2 (H.out.keep ((X1.out.trans XC.out).trans x2).keeps)).mono ?_; rintro e w3 ⟨rfl, x3⟩
      go_wp2_with fail
      go_meet
      exact ⟨rfl, rfl, x2.trans x3⟩
  case rest =>
  obtain ⟨rfl, rfl, xd⟩ := hcut
  have e1 := xd.keeps _ _ E0.out
  have E1 := Lib.hid e1
  have XD := Lib.hid ((X1.out.trans XC.out).trans xd)
  have hbw : w.heap.size < wc.heap.size := lt_of_cell e1
  have f1 : (wc.alloc (.map #[] 0)).cell? ⟨w.heap.size, 0, none⟩ = some (I kd) := (Keeps.alloc _ _) _ _ e1
  clear xd e0
  have la := LA.out; have lb := LB.out
  go_wp2_with (first
      | (refine wpList_lookupS rfl _ _ rfl _ _ _ rfl hv8 kd rfl HWF.out (pickT kd sg ta tb) (by simp only [pickT]) ?_)
      | (refine wpList_insertS rfl _ _ _ rfl _ _ _ rfl hv7 (by unfold maxLen; omega) 8 (wWas ++ [letter 65 sg] ++ (wThen ++ ta ++ wElse ++ tb ++ wEnd)) rfl (strV (by simp only [str_app]; rfl)) (by decide) (by unfold maxLen; simp [wEmit, wAwait, wOpen, wSemi, wClose, wBar, wIf, wWas, wThen, wElse, wEnd]; try omega) ?_; intro v8 hv8 hg8; have e10 := hg8.cell (a := ⟨w.heap.size, 0, none⟩) e9 (by simp; omega))
      | (refine wpList_insertS rfl _ _ _ rfl _ _ _ rfl hv6 (by unfold maxLen; omega) 7 (wIf ++ [letter 120 sg] ++ (wThen ++ ta ++ wElse ++ tb ++ wEnd)) rfl (strV (by simp only [str_app]; rfl)) (by decide) (by unfold maxLen; simp [wEmit, wAwait, wOpen, wSemi, wClose, wBar, wIf, wWas, wThen, wElse, wEnd]; try omega) ?_; intro v7 hv7 hg7; have e9 := hg7.cell (a := ⟨w.heap.size, 0, none⟩) e8 (by simp; omega))
      | (refine wpList_insertS rfl _ _ _ rfl _ _ _ rfl hv5 (by unfold maxLen; omega) 6 (wOpen ++ ta ++ wBar ++ tb ++ wClose) rfl (strV (by simp only [str_app]; rfl)) (by decide) (by unfold maxLen; simp [wEmit, wAwait, wOpen, wSemi, wClose, wBar, wIf, wWas, wThen, wElse, wEnd]; try omega) ?_; intro v6 hv6 hg6; have e8 := hg6.cell (a := ⟨w.heap.size, 0, none⟩) e7 (by simp; omega))
      | (refine wpList_insertS rfl _ _ _ rfl _ _ _ rfl hv4 (by unfold maxLen; omega) 5 (wOpen ++ ta ++ wSemi ++ tb ++ wClose) rfl (strV (by simp only [str_app]; rfl)) (by decide) (by unfold maxLen; simp [wEmit, wAwait, wOpen, wSemi, wClose, wBar, wIf, wWas, wThen, wElse, wEnd]; try omega) ?_; intro v5 hv5 hg5; have e7 := hg5.cell (a := ⟨w.heap.size, 0, none⟩) e6 (by simp; omega))
      | (refine wpList_insertS rfl _ _ _ rfl _ _ _ rfl hv3 (by unfold maxLen; omega) 4 (wAwait ++ [letter 120 sg]) rfl (strV (by simp only [str_app]; rfl)) (by decide) (by unfold maxLen; simp [wEmit, wAwait, wOpen, wSemi, wClose, wBar, wIf, wWas, wThen, wElse, wEnd]; try omega) ?_; intro v4 hv4 hg4; have e6 := hg4.cell (a := ⟨w.heap.size, 0, none⟩) e5 (by simp; omega))
      | (refine wpList_insertS rfl _ _ _ rfl _ _ _ rfl hv2 (by unfold maxLen; omega) 3 (wEmit ++ [letter 65 sg]) rfl (strV (by simp only [str_app]; rfl)) (by decide) (by unfold maxLen; simp [wEmit, wAwait, wOpen, wSemi, wClose, wBar, wIf, wWas, wThen, wElse, wEnd]; try omega) ?_; intro v3 hv3 hg3; have e5 := hg3.cell (a := ⟨w.heap.size, 0, none⟩) e4 (by simp; omega))
      | (refine wpList_insertS rfl _ _ _ rfl _ _ _ rfl hv1 (by unfold maxLen; omega) 2 wHalt rfl rfl (by decide) (by decide) ?_; intro v2 hv2 hg2; have e4 := hg2.cell (a := ⟨w.heap.size, 0, none⟩) e3 (by simp; omega))
      | (refine wpList_insertS rfl _ _ _ rfl _ _ _ rfl hv0 (by unfold maxLen; omega) 1 wPause rfl rfl (by decide) (by decide) ?_; intro v1 hv1 hg1; have e3 := hg1.cell (a := ⟨w.heap.size, 0, none⟩) e2 (by simp; omega))
      | (refine wpList_insertS rfl _ _ _ rfl _ _ _ rfl (MapS.made wc) (by unfold maxLen; omega) 0 wNothing rfl rfl (by decide) (by decide) ?_; intro v0 hv0 hg0; have e2 := hg0.cell (a := ⟨w.heap.size, 0, none⟩) f1 (by simp; omega))
      | go_in)
  go_ret
  refine ⟨rfl, ?_⟩
  have hx1 : Ext wc (wc.alloc (.map #[] 0)) := (Ext.refl wc).alloc _
  have hg := (((((((hg0.trans hg1).trans hg2).trans hg3).trans hg4).trans hg5).trans hg6).trans hg7).trans hg8
  exact XD.out.trans (Below.grown hx1 hg (by simp) (fun j hj => by injection hj with hj; omega))
set_option maxRecDepth 100000 in
set_option maxHeartbeats 4000000 in
theorem node_any (A : Option Addr) (n c : Nat) (p : List PNode) (hn : n ≤ 60000) : ∀ (t : Tr) (k : Nat) (w : World), SlN w A n p → TreeAt p k t → t.ok → (∀ x ∈ t.flat, goodN x) →
    Calls Tryd.prog 11 #[.slice A n c, I k] w fun e w' => e = .returned (S (textT t)) ∧ Ext w w'
  | .leaf x, k, w, h, ht, ok, hg => by
    have gx := hg x (by simp [Tr.flat])
    have hkk := good_leaf' (by simpa [Tr.ok] using ok) gx
    have hs := leaf_sig' gx
    rw [← pick_leaf hkk]
    exact node_step A n c p hn k x [] [] w h ht.top (by omega) (by omega) (by simp) (by simp) (.inl ⟨by simpa [Tr.ok] using ok, rfl, rfl⟩)
  | .two x a b, k, w, h, ht, ok, hg => by
    have gx := hg x (by simp [Tr.flat])
    obtain ⟨hk2, oa, ob⟩ := ok
    have hkk := good_two' hk2 gx
    have hs := leaf_sig' gx
    have hle := ht.le
    have hpl : p.length = n := h.1
    simp only [Tr.size] at hle
    have la : (textT a).length ≤ 2000000 := by have := text_len a; omega
    have lb : (textT b).length ≤ 2000000 := by have := text_len b; omega
    have h1 := ht.first.one oa
    have hO : (ofP p k).1 = (k : Int) + 1 ∧ (ofP p k).2.1 = ((k + 1 + a.size : Nat) : Int) := by
      unfold ofP; rw [ht.top]; simp only [Tr.top, hk2, if_true]; exact ⟨trivial, by rw [show ((k : Int) + 1) = ((k + 1 : Nat) : Int) from by omega, h1]; omega⟩
    rw [← pick_two a b hkk]
    refine node_step A n c p hn k x _ _ w h ht.top (by omega) (by omega) la lb (.inr ⟨hk2, fun Q hQ => ?_, fun Q hQ => ?_⟩)
    · rw [hO.1]; exact node_any A n c p hn a (k + 1) Q hQ ht.first oa (fun y hy => hg y (by simp [Tr.flat, hy]))
    · rw [hO.2]; exact node_any A n c p hn b (k + 1 + a.size) Q hQ ht.second ob (fun y hy => hg y (by simp [Tr.flat, hy]))
end Go.Proofs.YtgohhcnmkomafaaDoor
/- SameProgs; text.Show. -/
namespace Go.Proofs.YtgohhcnmkomafaaDoor
set_option linter.unusedVariables false
set_option linter.unusedSimpArgs false
open Go.RowKit
deriving instance DecidableEq for PNode
theorem show_bad (A : Option Addr) (n c : Nat) (p : List PNode) (w : World) (h : SlN w A n p) (hn : n ≤ maxLen) (hb : checkP p ≠ 0) :
    Calls Tryd.prog 4 #[.slice A n c] w fun e w' => e = .returned (Pr (S []) (I (checkP p))) ∧ Ext w w' := by
  generalize hq : checkP p = q at *
  have g : (q != 0) = true := by simpa using hb
  have HQ := Lib.hid hq; have H := Lib.hid h; clear h hq hb
  go_enter Tryd.func4, Tryd.ntmps4
  go_wp2_with fail
  refine (progCheck_any A n c p w H.out hn).mono ?_; rintro e w1 ⟨rfl, x1⟩; rw [HQ.out]
  go_wp2
  go_ret2
  exact ⟨rfl, x1⟩
theorem show_ok (A : Option Addr) (n c : Nat) (t : Tr) (w : World) (h : SlN w A n t.flat) (ok : t.ok) (hs : t.size ≤ 14) (hg : ∀ x ∈ t.flat, goodN x) :
    Calls Tryd.prog 4 #[.slice A n c] w fun e w' => e = .returned (Pr (S (textT t)) (I 0)) ∧ Ext w w' := by
  have hn : n ≤ 14 := by have := h.1; rw [flat_size] at this; omega
  have HQ := Lib.hid (tree_check ok hs hg); have H := Lib.hid h; clear h
  have HN := Lib.hid (fun Q (hQ : SlN Q A n t.flat) => node_any A n c t.flat (by omega) t 0 Q hQ (TreeAt.root t) ok hg)
  go_enter Tryd.func4, Tryd.ntmps4
  go_wp2_with fail
  refine (progCheck_any A n c t.flat w H.out (by unfold maxLen; omega)).mono ?_; rintro e w1 ⟨rfl, x1⟩; rw [HQ.out]
  go_wp2_with fail
  refine (HN.out w1 (H.out.keep x1.keeps)).mono ?_; rintro e w2 ⟨rfl, x2⟩
  go_wp2
  go_ret2
  exact ⟨rfl, x1.trans x2⟩
end Go.Proofs.YtgohhcnmkomafaaDoor
/- A line of a script, by the program. -/
namespace Go.Proofs.YtgohhcnmkomafaaDoor
set_option linter.unusedVariables false
set_option linter.unusedSimpArgs false
set_option maxRecDepth 100000
open Go.RowKit
theorem Sl.tail {w : World} {b n : Nat} {u : Value} {cs : List Value} (h : Sl w (some ⟨b, 0, none⟩) (n + 1) (u :: cs)) : Sl w (some ⟨b, 1, none⟩) n cs :=
  ⟨by have := h.1; simpa using this, fun k x hx => by
    obtain ⟨b', off, e, hc⟩ := h.2 (k + 1) x (by simpa using hx)
    injection e with e; injection e with e1 e2; subst e1; subst e2
    exact ⟨_, 1, rfl, by rw [Nat.add_comm 1 k]; rw [Nat.zero_add] at hc; exact hc⟩⟩
set_option maxHeartbeats 8000000 in
theorem dline_any (D : Nat) (PA : Option Addr) (n pc : Nat) (t : Tr) (r : RestM) (fr : Bool) (g1 g2 : Nat) (l : List UInt8) (m : Int) (w : World) (h : TblW w D PA n pc t r fr g1 g2) (hm : w.cell? ⟨0, 0, none⟩ = some (.int .i64 m)) (ok : t.ok) (hg : ∀ y ∈ t.flat, goodN y) (hs : t.size ≤ 14) (hr : RestOK t r) (hl : l.length ≤ 4096) :
    Calls Tryd.prog 21 #[.pointer (some ⟨D, 0, none⟩), S l] w fun e w' => ∃ fr' p1 p2, e = .returned (S (stepL t r l).2) ∧ TblW w' D PA n pc t (stepL t r l).1 fr' p1 p2 ∧ w.grownBy w' (some D) := by
  have hn : n = t.size := by rw [← flat_size, h.nodes.1]
  have hn14 : n ≤ 14 := by omega
  have H := Lib.hid h; have HML := Lib.hid hm; have HOK := Lib.hid ok; have HG := Lib.hid hg; have HS := Lib.hid hs; have HR := Lib.hid hr; have HN := Lib.hid hn; have HN14 := Lib.hid hn14
  clear h hm ok hg hs hr hn hn14
  go_enter Tryd.func21, Tryd.ntmps21
  go_wp2_with fail
  refine (split_sp l m w (by omega) HML.out).mono ?_; rintro e w1 ⟨q, rfl, hsl, hq1, hq2, x1⟩
  have hwl : (Lib.split l [32]).length = q := hsl.len
  obtain ⟨w0, ws, hws⟩ : ∃ w0 ws, Lib.split l [32] = w0 :: ws := by
    cases hh : Lib.split l [32] with
    | nil => rw [hh] at hwl; simp at hwl; omega
    | cons a b => exact ⟨a, b, rfl⟩
  have htk := tick_words hws
  rw [hws] at hsl hwl
  obtain ⟨q', rfl⟩ : ∃ q', q = q' + 1 := ⟨q - 1, by omega⟩
  have hwl' : ws.length = q' := by simpa using hwl
  have HSL := Lib.hid hsl; have X1 := Lib.hid x1; have HTK := Lib.hid htk
  have hm1 := x1.keeps _ _ HML.out
  have hc0 := hsl.at_ (k := 0) (by omega)
  have HM1 := Lib.hid hm1; have HWL := Lib.hid hwl'
  clear hsl x1 htk hm1 hws hwl hc0 hwl'
  obtain ⟨xv, bv, hxv⟩ : ∃ (xv : Nat) (bv : Bool), insV ws = Pr (I xv) (.bool bv) := by
    unfold insV
    cases insOf ws with
    | some x => exact ⟨x, true, rfl⟩
    | none => exact ⟨0, false, rfl⟩
  have HXV := Lib.hid hxv
  clear hxv
  go_upto_region 2 with fail
  go_cut [6, 7] (fun s6 s7 wx => s6 = I xv ∧ s7 = .bool bv ∧ wx = w1)
  case first =>
    by_cases h0 : q' = 0
    · subst h0
      have hnil : ws = [] := List.length_eq_zero_iff.1 HWL.out
      subst hnil
      go_wp2_with fail
      refine (inputs_any _ 0 0 [] m w1 HM1.out (Sl.nil _ _) (by omega)).mono ?_; rintro e w' ⟨rfl, rfl⟩; rw [HXV.out]
      go_wp2_with fail
      go_meet
      exact ⟨rfl, rfl, rfl⟩
    · go_wp2_with fail
      refine (inputs_any _ q' q' ws m w1 HM1.out HSL.out.tail (by omega)).mono ?_; rintro e w' ⟨rfl, rfl⟩; rw [HXV.out]
      go_wp2_with fail
      go_meet
      exact ⟨rfl, rfl, rfl⟩
  case rest =>
    obtain ⟨rfl, rfl, rfl⟩ := hcut
    have hc0 : wc.cell? ⟨w.heap.size, 0, none⟩ = some (S w0) := by
      obtain ⟨b, off, u, e, hcc, hu⟩ := HSL.out.at_ (k := 0) (by omega)
      injection e with e; injection e with e1 e2; subst e1; subst e2
      simp at hu; subst hu; exact hcc
    have hgx := X1.out.grown (some D)
    have hT1 := H.out.ext X1.out
    have HT1 := Lib.hid hT1; have HGX := Lib.hid hgx
    clear hT1 hgx HSL HM1
    cases htm : tickM l with
    | some x =>
      obtain ⟨hx8, hlx⟩ := tickM_some htm
      have hw0 : w0 = tickB := by
        have := HTK.out
        rw [htm] at this
        split at this
        · assumption
        · cases this
      have hio : insOf ws = some x := by
        have := HTK.out
        rw [htm, if_pos hw0] at this; exact this
      have hst : stepL t r l = (turnR t r x, listedT (tickW (turnR t r x).outs (turnM t r x).1)) := by unfold stepL; rw [htm]
      have hxb : xv = x ∧ bv = true := by
        have := HXV.out
        unfold insV at this
        rw [hio] at this
        simp [Pr] at this
        exact ⟨by omega, this.2⟩
      obtain ⟨rfl, rfl⟩ := hxb
      subst hw0
      have HST := Lib.hid hst; have HX8 := Lib.hid hx8
      have hc1 : wc.cell? ⟨w.heap.size, 0, none⟩ = some (.string ⟨#[116, 105, 99, 107]⟩) := hc0
      clear htm hlx hio hst hx8 HTK HXV hc0
      go_wp2_with fail
      refine (dtick_any D PA n pc t r fr g1 g2 xv wc HT1.out HOK.out HG.out HS.out HR.out HX8.out).mono ?_; rintro e w2 ⟨p1, p2, rfl, ht2, hg2⟩
      go_wp2
      go_ret
      rw [HST.out]
      exact ⟨false, p1, p2, rfl, ht2, grown_trans HGX.out hg2⟩
    | none =>
      have HTM := Lib.hid htm
      have hnt : w0 = tickB → bv = false := fun e => by
        have := HTK.out
        rw [htm, if_pos e] at this
        have h2 := HXV.out
        unfold insV at h2
        rw [this] at h2
        simp [Pr] at h2
        exact h2.2
      clear htm HTK HXV
      go_upto_region 3 with fail
      go_cut [18] (fun s18 wx => s18 = .bool false ∧ wx = wc)
      case first =>
        by_cases hw0 : w0 = tickB
        · have hbv := hnt hw0
          subst hw0; subst hbv
          have hc1 : wc.cell? ⟨w.heap.size, 0, none⟩ = some (.string ⟨#[116, 105, 99, 107]⟩) := hc0
          clear hc0 hnt
          go_wp2_with fail
          go_meet
          exact ⟨rfl, rfl⟩
        · clear hnt
          have hne : (w0 == [116, 105, 99, 107]) = false := beq_eq_false_iff_ne.2 hw0
          clear hw0
          go_wp2_with fail
          go_meet
          exact ⟨rfl, rfl⟩
      case rest =>
        obtain ⟨rfl, hwc⟩ := hcut
        rename_i wd _
        obtain ⟨k0, k1, k2, k3, kf⟩ := HT1.out.cells
        subst hwc
        clear hc0 hnt
        by_cases e1 : l = restB
        · subst e1
          have hst : stepL t r restB = (r, listedT (waitW r.waits 0)) := by unfold stepL; rw [HTM.out, if_pos rfl]
          have HST := Lib.hid hst
          have hrest := HT1.out.rest
          have HRE := Lib.hid (drest_any D (some ⟨g1, 0, none⟩) n n r.waits wc k2 hrest.waits HN14.out)
          clear hst hrest
          simp only [restB]
          go_wp2_with fail
          refine HRE.out.mono ?_; rintro e w2 ⟨rfl, hx2⟩
          go_wp2
          go_ret
          rw [show [114, 101, 115, 116] = restB from rfl, HST.out]
          exact ⟨fr, g1, g2, rfl, HT1.out.ext hx2, grown_trans HGX.out (hx2.grown _)⟩
        · have n1 : (l == [114, 101, 115, 116]) = false := beq_eq_false_iff_ne.2 e1
          by_cases e2 : l = showB
          · subst e2
            have hst : stepL t r showB = (r, textT t) := by unfold stepL; rw [HTM.out, if_neg e1, if_pos rfl]
            have HST := Lib.hid hst
            have HSH := Lib.hid (show_ok PA n pc t wc HT1.out.nodes HOK.out HS.out HG.out)
            clear hst n1 e1
            simp only [showB]
            go_wp2_with fail
            refine HSH.out.mono ?_; rintro e w2 ⟨rfl, hx2⟩
            go_wp2
            go_ret
            rw [show [115, 104, 111, 119] = showB from rfl, HST.out]
            exact ⟨fr, g1, g2, rfl, HT1.out.ext hx2, grown_trans HGX.out (hx2.grown _)⟩
          · have n2 : (l == [115, 104, 111, 119]) = false := beq_eq_false_iff_ne.2 e2
            by_cases e3 : l = againB
            · subst e3
              have hst : stepL t r againB = (freshM t.size, okB) := by unfold stepL; rw [HTM.out, if_neg e1, if_neg e2, if_pos rfl]
              have HST := Lib.hid hst
              have hFr := fresh_any PA n pc wc HN14.out
              have HFR := Lib.hid hFr
              clear hst n1 n2 e1 e2 hFr
              simp only [againB]
              go_wp2_with fail
              refine HFR.out.mono ?_; rintro e w2 ⟨p1, p2, rfl, hp1, hp2, -, ho1, ho2, hx2⟩
              have hb := HT1.out.box.ext hx2
              have y1 := (hb.cell 1).trans rfl; have y2 := (hb.cell 2).trans rfl; have y3 := (hb.cell 3).trans rfl
              simp only [List.getElem?_cons_zero, List.getElem?_cons_succ] at y1 y2 y3
              have yf := hb.free
              have hlt := HT1.out.box.lt
              have HB := Lib.hid hb; have HO1 := Lib.hid ho1; have HO2 := Lib.hid ho2; have HX2 := Lib.hid hx2; have HP1 := Lib.hid (Nat.ne_of_lt (Nat.lt_of_lt_of_le hlt hp1)); have HP2 := Lib.hid (Nat.ne_of_lt (Nat.lt_of_lt_of_le hlt hp2))
              clear hb ho1 ho2 hx2 hp1 hp2 hlt k0 k1 k2 k3 kf
              go_wp2
              go_ret
              rw [show [97, 103, 97, 105, 110] = againB from rfl, HST.out]
              have hrr : RestC w2 true (some ⟨p1, 0, none⟩) n n (some ⟨p2, 0, none⟩) 3 3 (freshM t.size) := by
                obtain ⟨A1, c1, f1, -, -, s1⟩ := own_sl HO1.out
                obtain ⟨A2, c2, f2, -, -, s2⟩ := own_sl HO2.out
                injection f1 with f1 _ _; subst f1
                injection f2 with f2 _ _; subst f2
                exact ⟨rfl, by rw [← HN.out]; exact s1, s2, ⟨Nat.le_refl _, by have := HN14.out; unfold maxLen; omega⟩, ⟨Nat.le_refl _, by unfold maxLen; omega⟩⟩
              refine ⟨true, p1, p2, rfl, ⟨((HB.out.set 1 _).set 2 _).set 3 _, ((hrr.far HP1.out HP2.out _).far HP1.out HP2.out _).far HP1.out HP2.out _, (((HT1.out.nodes.keep HX2.out.keeps).far' HT1.out.dp _).far' HT1.out.dp _).far' HT1.out.dp _, HP1.out, HP2.out, HT1.out.dp⟩, ?_⟩
              exact grown_trans HGX.out (grown_trans (grown_trans (grown_trans (HX2.out.grown _) (grown_set _ D 1 _)) (grown_set _ D 2 _)) (grown_set _ D 3 _))
            · have n3 : (l == [97, 103, 97, 105, 110]) = false := beq_eq_false_iff_ne.2 e3
              have hst : stepL t r l = (r, errB) := by unfold stepL; rw [HTM.out, if_neg e1, if_neg e2, if_neg e3]
              have HST := Lib.hid hst
              clear hst e1 e2 e3 k0 k1 k2 k3 kf
              go_wp2_with fail
              refine (itoa_any 1 (by omega) wc).mono ?_; rintro e w2 ⟨rfl, rfl⟩
              go_wp2
              go_ret
              rw [HST.out]
              exact ⟨fr, g1, g2, rfl, HT1.out, HGX.out⟩
end Go.Proofs.YtgohhcnmkomafaaDoor
/- Words that a text begins with, cut off, by the library and by the reference. -/
namespace Go.Proofs.YtgohhcnmkomafaaDoor
set_option linter.unusedVariables false
set_option linter.unusedSimpArgs false
open Go.RowKit
theorem cutP_take : ∀ (w s : List UInt8), cutP w s = if s.take w.length = w then some (s.drop w.length) else none
  | [], s => by simp [cutP]
  | c :: w, [] => by simp [cutP]
  | c :: w, d :: s => by
    simp only [cutP, List.length_cons, List.take_succ_cons, List.drop_succ_cons, List.cons.injEq]
    by_cases e : c = d
    · subst e; rw [if_pos rfl, cutP_take w s]; simp
    · rw [if_neg e, if_neg (fun h => e h.1.symm)]
theorem ba_extract (s : List UInt8) (a b : Nat) : (⟨s.toArray⟩ : ByteArray).extract a b = ⟨((s.take b).drop a).toArray⟩ := by
  apply ByteArray.ext
  simp [ByteArray.data_extract, List.drop_take]
/-- What is left of a text behind a word, or the text as it is; and whether it begins so. -/
def restP (w s : List UInt8) : List UInt8 := (cutP w s).getD s
def isP (w s : List UInt8) : Bool := (cutP w s).isSome
theorem ba_toList (l : List UInt8) : (⟨l.toArray⟩ : ByteArray).toList = l := by
  have h : ∀ (b : ByteArray) (i : Nat) (r : List UInt8), ByteArray.toList.loop b i r = r.reverse ++ b.data.toList.drop i := by
    intro b i r
    induction h : b.size - i generalizing i r with
    | zero =>
      rw [ByteArray.toList.loop]
      have h1 : ¬ i < b.size := by omega
      rw [if_neg h1, List.drop_eq_nil_of_le (by have : b.size = b.data.size := rfl; simp; omega)]; simp
    | succ n ih =>
      have h1 : i < b.size := by omega
      rw [ByteArray.toList.loop, if_pos h1, ih (i + 1) _ (by omega)]
      have h2 : i < b.data.toList.length := by have : b.size = b.data.size := rfl; simp; omega
      rw [List.drop_eq_getElem_cons h2]
      have : b.get! i = b.data.toList[i] := by
        show b.data[i]! = _
        rw [getElem!_pos b.data i (by simpa using h2)]; simp
      rw [this]; simp
  unfold ByteArray.toList
  rw [h]; simp
theorem isP_take (w s : List UInt8) : isP w s = decide (s.take w.length = w) := by
  unfold isP; rw [cutP_take]; split <;> simp_all
theorem isP_short {w s : List UInt8} (h : ¬ w.length ≤ s.length) : isP w s = false := by
  rw [isP_take]
  refine decide_eq_false fun e => h ?_
  have := congrArg List.length e; simp at this; omega
theorem restP_yes {w s : List UInt8} (h : isP w s = true) : restP w s = s.drop w.length := by
  unfold isP at h; unfold restP; rw [cutP_take] at *; split at h <;> simp_all
theorem restP_no {w s : List UInt8} (h : isP w s = false) : restP w s = s := by
  unfold isP at h; unfold restP; cases hc : cutP w s with
  | none => rfl
  | some r => rw [hc] at h; cases h
theorem isP_eq (s w : List UInt8) : (((⟨s.toArray⟩ : ByteArray).extract 0 w.length).toList == w) = isP w s := by
  rw [ba_extract, ba_toList, isP_take, List.drop_zero, Bool.eq_iff_iff]; simp
theorem ba_tail {w s : List UInt8} (h : isP w s = true) (n : Nat) (hn : n = s.length) : (⟨s.toArray⟩ : ByteArray).extract w.length n = ⟨(restP w s).toArray⟩ := by
  subst hn
  rw [ba_extract, restP_yes h, List.take_length]
theorem hasPrefix_any (s w : List UInt8) (hs : s.length ≤ 1000000) (hw : w.length ≤ 1000000) (W : World) :
    Calls Tryd.prog 84 #[S s, S w] W fun e w' => e = .returned (.bool (isP w s)) ∧ W = w' := by
  go_enter Tryd.func84, Tryd.ntmps84
  go_wp2
  all_goals go_ret
  · exact ⟨ret_bool (isP_eq s w), rfl⟩
  · exact ⟨ret_bool (isP_short (by assumption)).symm, rfl⟩
theorem sCutPrefix_any (s w : List UInt8) (hs : s.length ≤ 1000000) (hw : w.length ≤ 1000000) (W : World) :
    Calls Tryd.prog 76 #[S s, S w] W fun e w' => e = .returned (Pr (S (restP w s)) (.bool (isP w s))) ∧ W = w' := by
  cases h : isP w s
  · have HI := Lib.hid h; have HR := Lib.hid (restP_no h); clear h
    go_enter Tryd.func76, Tryd.ntmps76
    go_wp2_with fail
    refine (hasPrefix_any s w hs hw _).mono ?_; rintro e w1 ⟨rfl, rfl⟩; rw [HI.out]
    go_wp2
    go_ret2
    exact ⟨ret_pair (congrArg S HR.out.symm) rfl, rfl⟩
  · have HI := Lib.hid h; have HR := Lib.hid (ba_tail h s.length rfl)
    have hle : w.length ≤ s.length := by
      rcases Nat.lt_or_ge s.length w.length with q | q
      · rw [isP_short (by omega)] at h; cases h
      · exact q
    clear h
    go_enter Tryd.func76, Tryd.ntmps76
    go_wp2_with fail
    refine (hasPrefix_any s w hs hw _).mono ?_; rintro e w1 ⟨rfl, rfl⟩; rw [HI.out]
    go_wp2
    go_ret2
    exact ⟨ret_pair (congrArg Value.string HR.out) rfl, rfl⟩
theorem cutPrefix_any (s w : List UInt8) (hs : s.length ≤ 1000000) (hw : w.length ≤ 1000000) (W : World) :
    Calls Tryd.prog 68 #[S s, S w] W fun e w' => e = .returned (Pr (S (restP w s)) (.bool (isP w s))) ∧ W = w' := by
  go_enter Tryd.func68, Tryd.ntmps68
  go_wp2_with fail
  refine (sCutPrefix_any s w hs hw _).mono ?_; rintro e w1 ⟨rfl, rfl⟩
  go_wp2
  go_ret2
  exact ⟨rfl, rfl⟩
end Go.Proofs.YtgohhcnmkomafaaDoor
