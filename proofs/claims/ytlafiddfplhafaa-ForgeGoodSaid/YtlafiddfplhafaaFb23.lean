/- What must be in any case of forge. -/
import Derived.Test.YtlafiddfplhafaaFb15
import Derived.Test.YtlafiddfplhafaaFb19
import Derived.Test.YtlafiddfplhafaaFb22
import Derived.Test.YtlafiddfplhafaaFb09
import Derived.Test.YtlafiddfplhafaaFb14
import Derived.Maps.OwnSet
import Derived.Maps.Views
import Derived.Maps.OwnOps
import Derived.StringKeys
import Derived.Test.YtlafiddfplhafaaFb10
import Derived.Laws.IdiomStrings
import Derived.Test.YtlafiddfplhafaaFb01
namespace Go.Proofs.Ytlafiddfplhafaa
set_option linter.unusedVariables false
set_option linter.unusedSimpArgs false
set_option linter.unusedVariables false
set_option linter.unusedSimpArgs false
open Go.RowKit
theorem fplay_ok (w : World) : Calls Try.prog 35 #[] w fun e w' => ∃ b, e = .returned (.slice (some ⟨b, 0, none⟩) 13 13) ∧ SlN w' (some ⟨b, 0, none⟩) 13 playM ∧ Ext w w' :=
  (play_any w).mono fun e w' ⟨h1, h2⟩ => ⟨_, h1, by rw [← h2]; exact Sl2.newAt PK PS w _ playM _ _ rfl rfl, by rw [← h2]; exact (Ext.refl w).alloc _⟩
theorem netbox_mk (w : World) (i : Int) (GA : Option Addr) (gn gc : Nat) (RA : Option Addr) (rn rc : Nat) (OA : Option Addr) (on oc : Nat) :
    ∃ q, q = w.alloc (.cells #[I i, .slice GA gn gc, .slice RA rn rc, .slice OA on oc] 39) ∧ Ext w q ∧ NetBox q w.heap.size i GA gn gc RA rn rc OA on oc :=
  ⟨_, rfl, (Ext.refl _).alloc _, NetBox.new w i GA gn gc RA rn rc OA on oc _⟩
theorem fplay_check : checkP playM = 0 := by decide +kernel
theorem fplay_err : runErr playM [0, 1, 0, 7] = 0 := by decide +kernel
theorem fplay_rows : runRows playM [0, 1, 0, 7] = [[0, 0, 0], [1, 1, 0], [0, 0, 1], [0, 0, 0]] := by decide +kernel
theorem fplay_err2 : runErr playM [8] = 3 := by decide +kernel
theorem fplay_rows2 : runRows playM [8] = [] := by decide +kernel
theorem fplay_waits : waitsN playM = 4 := by decide +kernel
/-- What a right program's net answers. -/
structure NetFacts (p : List PNode) : Prop where
  check : checkN (netR p) = 0
  ok : NetOK (netR p)
  ins : (netR p).ins = 3
  outs : (netR p).outs.length = 3
  runE : ∀ l, runE (netR p) l = timesM l 3
  runV : ∀ l, timesM l 3 = 0 → (runV (netR p) l).1 = runRows p l
  order : ∃ l, orderM (netR p).gates = some l
  swept : ∃ l, orderM (dropN (foldN (netR p))).gates = some l
  reach : ∀ w, reachM (netR p) ≠ .bad w
theorem net_facts {p : List PNode} (h : checkP p = 0) : NetFacts p := by
  obtain ⟨t1, t2, t3, t4⟩ := tree_of h
  have e : netR p = netF (treeOf p) := by rw [netR, if_pos h]
  have ok := net_ok t1 t4 t3
  refine ⟨by rw [e]; exact ok.check, by rw [e]; exact ok, by rw [e]; rfl, by rw [e]; rfl, fun l => by rw [e]; exact fnet_runE t1 t4 t3 l, fun l hl => ?_, by rw [e]; exact net_order t1 t4 t3, by rw [e]; exact fnet_swept t1 t4 t3, by rw [e]; exact fnet_reach t1 t4 t3⟩
  rw [e, fnet_runV t1 t4 t3 l hl, runRows, if_pos (by unfold runErr; rw [if_pos h, hl])]
theorem SlRows.new4 (w : World) (b : Nat) (hb : b = w.heap.size) (A1 A2 A3 A4 : Option Addr) (r1 r2 r3 r4 : List Int) (t : TypeId) (h1 : Sl w A1 3 (r1.map I)) (h2 : Sl w A2 3 (r2.map I)) (h3 : Sl w A3 3 (r3.map I)) (h4 : Sl w A4 3 (r4.map I)) :
    SlRows (w.alloc (.cells #[.slice A1 3 3, .slice A2 3 3, .slice A3 3 3, .slice A4 3 3] t)) (some ⟨b, 0, none⟩) 4 [r1, r2, r3, r4] := by
  subst hb
  have k : 3 ≤ maxLen := by unfold maxLen; omega
  have l1 : r1.length = 3 := h1.len
  have l2 : r2.length = 3 := h2.len
  have l3 : r3.length = 3 := h3.len
  have l4 : r4.length = 3 := h4.len
  have cell : ∀ (j : Nat) (v : Value), #[Value.slice A1 3 3, .slice A2 3 3, .slice A3 3 3, .slice A4 3 3][j]? = some v → (w.alloc (.cells #[.slice A1 3 3, .slice A2 3 3, .slice A3 3 3, .slice A4 3 3] t)).cell? ⟨w.heap.size, 0 + j, none⟩ = some v := fun j v h => by
    rw [Nat.zero_add, World.cell?_alloc_new]; exact h
  refine ⟨rfl, fun j r hr => ?_⟩
  rcases j with _ | _ | _ | _ | j
  · injection hr with e; subst e
    exact ⟨_, 0, A1, 3, rfl, by rw [l1]; exact cell 0 _ rfl, by rw [l1]; exact h1.keep (Keeps.alloc _ _), by omega, k⟩
  · injection hr with e; subst e
    exact ⟨_, 0, A2, 3, rfl, by rw [l2]; exact cell 1 _ rfl, by rw [l2]; exact h2.keep (Keeps.alloc _ _), by omega, k⟩
  · injection hr with e; subst e
    exact ⟨_, 0, A3, 3, rfl, by rw [l3]; exact cell 2 _ rfl, by rw [l3]; exact h3.keep (Keeps.alloc _ _), by omega, k⟩
  · injection hr with e; subst e
    exact ⟨_, 0, A4, 3, rfl, by rw [l4]; exact cell 3 _ rfl, by rw [l4]; exact h4.keep (Keeps.alloc _ _), by omega, k⟩
  · simp at hr
theorem frun_lit (A : Option Addr) (n c : Nat) (p : List PNode) (B : Option Addr) (m d : Nat) (l : List Int) (rows : List (List Int)) (x : Int) (k : Nat) (w : World) (hk : rows.length = k) (hE : runErr p l = x) (hV : runRows p l = rows) (h : SlN w A n p) (hn : n ≤ 1000) (hl : Sl w B m (l.map I)) (hm : m ≤ 1000) :
    Calls Try.prog 7 #[.slice A n c, .slice B m d] w fun e w' => ∃ A c, e = .returned (Pr (.slice A k c) (I x)) ∧ SlRows w' A k rows ∧ Ext w w' :=
  (frun_any A n c p B m d l w h (ml_small hn) hl (ml_small hm)).mono fun e w' ⟨v, vs, he, h1, hx⟩ => by
    rw [hE] at he
    rw [hV] at h1
    obtain ⟨A, c, rfl, -, -, hs⟩ := h1.slice
    rw [hk] at he hs
    exact ⟨A, c, he, hs, hx⟩
set_option maxRecDepth 100000 in
set_option maxHeartbeats 8000000 in
theorem forgeBegun_any (w : World) : Calls Try.prog 12 #[] w fun e w' => e = .returned (.bool true) ∧ Ext w w' := by
  have F := net_facts fplay_check
  have hE : runE (netR playM) [0, 1, 0, 7] = 0 := by rw [F.runE]; decide
  have hV : (runV (netR playM) [0, 1, 0, 7]).1 = [[0, 0, 0], [1, 1, 0], [0, 0, 1], [0, 0, 0]] := by rw [F.runV _ (by decide), fplay_rows]
  have HF := Lib.hid F; have HE := Lib.hid hE; have HV := Lib.hid hV
  clear F hE hV
  go_enter Try.func12, Try.ntmps12
  go_wp2_with fail
  refine (fplay_ok w).mono ?_; rintro e w1 ⟨b1, rfl, hp, x1⟩
  have HP := Lib.hid hp; have X1 := Lib.hid x1; clear hp x1
  go_wp2_with fail
  refine (net_any _ 13 13 playM w1 HP.out (by unfold maxLen; omega)).mono ?_; rintro e w2 ⟨i, GA, gn, gc, RA, rn, rc, OA, on, oc, rfl, hN, x2⟩
  rw [fplay_check]
  have hi : i = 3 := by rw [hN.ins]; exact HF.out.ins
  have ho : on = 3 := by have := hN.outs.len; rw [HF.out.outs] at this; exact this.symm
  subst hi; subst ho
  obtain ⟨wf, hwf, hxf, hbf⟩ := netbox_mk w2 3 GA gn gc RA rn rc OA 3 oc
  have HN := Lib.hid (hN.keep hxf.keeps); have HBF := Lib.hid hbf; have HWF := Lib.hid hwf; have XF := Lib.hid (X1.out.trans (x2.trans hxf))
  clear hN x2 hwf hxf hbf HP X1
  go_wp2_with fail
  rw [← HWF.out]
  refine (fplay_ok wf).mono ?_; rintro e w3 ⟨b3, rfl, hp, x3⟩
  have HP := Lib.hid hp; have X3 := Lib.hid x3; clear hp x3
  go_wp2_with fail
  refine (frun_lit _ 13 13 playM _ 4 4 [0, 1, 0, 7] [[0, 0, 0], [1, 1, 0], [0, 0, 1], [0, 0, 0]] 0 4 _ rfl fplay_err fplay_rows (HP.out.keep (Keeps.alloc _ _)) (by omega) (Sl.newAt _ _ [I 0, I 1, I 0, I 7] _ rfl) (by omega)).mono ?_
  rintro e w4 ⟨L, lc, rfl, hl, x4⟩
  have hx := (X3.out.alloc _).trans x4
  obtain ⟨q0, q1, q2, q3⟩ := HBF.out.keep hx.keeps
  have SL := Lib.hid hl; have X4 := Lib.hid hx; clear hl x4 hx X3 HP
  go_wp2_with fail
  refine (run_any 3 GA gn gc RA rn rc OA 3 oc (netR playM) _ 4 4 [0, 1, 0, 7] _ (HN.out.keep (X4.out.alloc _).keeps) (Sl.newAt _ _ [I 0, I 1, I 0, I 7] _ rfl) (by unfold maxLen; omega)).mono ?_
  rintro e w5 ⟨vo, vn, vs, rfl, h1, h2, x5⟩
  rw [HE.out]
  rw [HV.out] at h1
  obtain ⟨M, mc, rfl, -, -, hm⟩ := h1.slice
  obtain ⟨VA, vc, rfl, -, -, -⟩ := own_sl h2
  have hx := ((Ext.refl w4).alloc _).trans x5
  have SL5 := Lib.hid (SL.out.keep hx.keeps); have SM := Lib.hid hm; have X5 := Lib.hid (X4.out.trans hx); clear h1 h2 hm x5 hx SL X4 q0 q1 q2 q3
  rw [show ([[0, 0, 0], [1, 1, 0], [0, 0, 1], [0, 0, 0]] : List (List Int)).length = 4 from rfl] at SM ⊢
  go_wp2_with fail
  refine (fplay_ok w5).mono ?_; rintro e w6 ⟨b6, rfl, hp, x6⟩
  have HP := Lib.hid hp; have X6 := Lib.hid (X5.out.trans x6); have SL6 := Lib.hid (SL5.out.keep x6.keeps); have SM6 := Lib.hid (SM.out.keep x6.keeps); clear hp x6 SL5 SM X5
  go_wp2_with fail
  refine (size_any _ 13 13 playM w6 HP.out (by unfold maxLen; omega)).mono ?_; rintro e w7 ⟨rfl, x7⟩
  rw [if_pos fplay_check, if_pos fplay_check, fplay_check, fplay_waits]
  have X7 := Lib.hid (X6.out.trans x7); have SL7 := Lib.hid (SL6.out.keep x7.keeps); have SM7 := Lib.hid (SM6.out.keep x7.keeps); clear x7 SL6 SM6 X6 HP
  go_wp2_with fail
  refine (fplay_ok w7).mono ?_; rintro e w8 ⟨b8, rfl, hp, x8⟩
  have HP := Lib.hid hp; have X8 := Lib.hid (X7.out.trans x8); have SL8 := Lib.hid (SL7.out.keep x8.keeps); have SM8 := Lib.hid (SM7.out.keep x8.keeps); clear hp x8 SL7 SM7 X7
  go_wp2_with fail
  refine (frun_lit _ 13 13 playM _ 1 1 [8] [] 3 0 _ rfl fplay_err2 fplay_rows2 (HP.out.keep (Keeps.alloc _ _)) (by omega) (Sl.newAt _ _ [I 8] _ rfl) (by omega)).mono ?_
  rintro e w9 ⟨L9, lc9, rfl, -, x9⟩
  have hx := ((Ext.refl w8).alloc _).trans x9
  have X9 := Lib.hid (X8.out.trans hx); have SL9 := Lib.hid (SL8.out.keep hx.keeps); have SM9 := Lib.hid (SM8.out.keep hx.keeps); clear x9 hx SL8 SM8 X8 HP
  obtain ⟨q0, q1, q2, q3⟩ := HBF.out.keep X9.out.keeps
  go_wp2_with fail
  refine (netCheck_any 3 GA gn gc RA rn rc OA 3 oc (netR playM) w9 (HN.out.keep X9.out.keeps)).mono ?_; rintro e w10 ⟨rfl, x10⟩
  rw [HF.out.check]
  clear q0 q1 q2 q3
  have X10 := Lib.hid (X9.out.trans x10); have SL10 := Lib.hid (SL9.out.keep x10.keeps); have SM10 := Lib.hid (SM9.out.keep x10.keeps); clear x10 SL9 SM9 X9
  obtain ⟨q0, q1, q2, q3⟩ := HBF.out.keep X10.out.keeps
  go_wp2_with fail
  refine (rows_lit _ _ 4 _ _ [[0, 0, 0], [1, 1, 0], [0, 0, 1], [0, 0, 0]] _ (SL10.out.keep ((((Keeps.alloc _ _).trans (Keeps.alloc _ _)).trans ((Keeps.alloc _ _).trans (Keeps.alloc _ _))).trans (Keeps.alloc _ _))) (SlRows.new4 _ _ (by simp) _ _ _ _ [0, 0, 0] [1, 1, 0] [0, 0, 1] [0, 0, 0] _ ((Sl.newAt _ _ [I 0, I 0, I 0] _ rfl).keep (((Keeps.alloc _ _).trans (Keeps.alloc _ _)).trans (Keeps.alloc _ _))) ((Sl.newAt _ _ [I 1, I 1, I 0] _ (by simp)).keep ((Keeps.alloc _ _).trans (Keeps.alloc _ _))) ((Sl.newAt _ _ [I 0, I 0, I 1] _ (by simp)).keep (Keeps.alloc _ _)) (Sl.newAt _ _ [I 0, I 0, I 0] _ (by simp))) (by omega)).mono ?_; rintro e w11 ⟨rfl, x11⟩
  have hx := (((((Ext.refl w10).alloc _).alloc _).alloc _).alloc _).alloc _ |>.trans x11
  have X11 := Lib.hid (X10.out.trans hx); have SL11 := Lib.hid (SL10.out.keep hx.keeps); have SM11 := Lib.hid (SM10.out.keep hx.keeps); clear x11 hx SL10 SM10 X10 q0 q1 q2 q3
  go_wp2_with fail
  refine (rows_lit _ _ 4 _ _ [[0, 0, 0], [1, 1, 0], [0, 0, 1], [0, 0, 0]] _ SL11.out SM11.out (by omega)).mono ?_; rintro e w12 ⟨rfl, x12⟩
  go_wp2
  go_ret
  exact ⟨rfl, (XF.out.trans X11.out).trans x12⟩
end Go.Proofs.Ytlafiddfplhafaa
/- A map of integers, keyed by strings, that the call itself makes: its entries as a function. -/
namespace Go.Proofs.Ytlafiddfplhafaa
set_option linter.unusedVariables false
set_option linter.unusedSimpArgs false
open Go.RowKit Go.Maps Go.WideMaps
abbrev SK (s : List UInt8) : Value := .string ⟨s.toArray⟩
/-- Block b is a map of at most n entries; at k stands f k (0 where there is none). -/
def MapK (w : World) (b n : Nat) (f : List UInt8 → Int) : Prop :=
  ∃ D : DataW Unit, w.ownsMap Try.prog 9 (plainElem Try.prog 3) b n D ∧ IsMap D ∧ ∀ k, D.atKey (.string k) (.lit (.int .i64 0)) = .lit (.int .i64 (f k))
theorem mapK_law : Keyed Try.prog 9 := string_keyed Try.underlying9
theorem MapK.made (w : World) : MapK (w.alloc (.map #[] 0)) w.heap.size 0 (fun _ => 0) := ⟨.map [], World.ownsMap_made _ _ _ _, isMap_empty, fun _ => rfl⟩
theorem isKeyK (k : List UInt8) : WideAt.IsKeyLit (.string k) := by trivial
theorem zero_intK (w : World) : (zeroValue 3).run Try.prog w = .ok (.int .i64 0) w := by kernel_rfl
section
variable {w w' : World} {b n : Nat} {f : List UInt8 → Int}
theorem MapK.lt (h : MapK w b n f) : b < w.heap.size := by obtain ⟨D, h1, -⟩ := h; exact h1.lt
theorem MapK.kept {row : Option Nat} (h : MapK w b n f) (hg : w.grownBy w' row) (hne : some b ≠ row) : MapK w' b n f := by
  obtain ⟨D, h1, h2, h3⟩ := h; exact ⟨D, h1.kept hg hne, h2, h3⟩
theorem MapK.ext (h : MapK w b n f) (hx : Ext w w') : MapK w' b n f := by
  obtain ⟨D, ⟨es, clock, hb, F, hs, hD⟩, h2, h3⟩ := h
  exact ⟨D, ⟨es, clock, (hx.block b (Array.getElem?_eq_some_iff.1 hb).1).trans hb, F, hs, hD⟩, h2, h3⟩
theorem MapK.set (h : MapK w b n f) {g : Nat} (hg : g ≠ b) (j : Nat) (v : Value) : MapK (w.setCell ⟨g, j, none⟩ v) b n f := h.kept (row := some g) ⟨rfl, rfl, rfl, by simp, fun k _ hk => heap_setCell_other w ⟨g, j, none⟩ k v (fun e => hk (by simp [e]))⟩ (by simpa using fun e => hg e.symm)
/-- A map's block is no row's and no box's. -/
theorem MapK.ne_row (h : MapK w b n f) {base : Nat} {e : TypeId} {size m : Nat} {v : Value} {xs : List Value} (ho : w.ownsRow base e size v m xs) : some b ≠ v.ownBlock := by
  obtain ⟨D, ⟨es, clock, hb, -⟩, -⟩ := h
  rcases ho.2 with ⟨rfl, _⟩ | ⟨g, cap, cur, rfl, _, hg, _⟩
  · simp [Value.ownBlock]
  · intro e1
    have e2 : b = g := Option.some.inj e1
    subst e2
    rw [hb] at hg; injection hg with hg; cases hg
theorem MapK.ne_box (h : MapK w b n f) {g : Nat} {T : TypeId} {cs : List Value} (hb : Box w g T cs) : g ≠ b := by
  obtain ⟨D, ⟨es, clock, hm, -⟩, -⟩ := h
  rintro rfl
  unfold Box at hb
  rw [hm] at hb; injection hb with hb; cases hb
end
theorem wpList_updateK {w : World} {ops : Array Oper} {rest : List Oper} {o : Oper} {a : Act} {Q : Exit → Act → World → Prop}
    (hg : o.guard = none) (m x v : Operand) (hop : o.op = Op.mapUpdate 101 m x v) (b n : Nat) (f : List UInt8 → Int) (hm : a.eval m = .map (some b)) (hown : MapK w b n f) (hn : n < maxLen)
    (k : List UInt8) (y : Int) (hx : a.eval x = SK k) (hv : a.eval v = I y) (hk : k.length ≤ maxLen) (hy : (Lit.int .i64 y).wf = true)
    (hK : ∀ w', MapK w' b (n + 1) (fun j => if j = k then y else f j) → w.grownBy w' (some b) → wpList Try.prog ops Q rest (a.put o.dst undef) w') :
    wpList Try.prog ops Q (o :: rest) a w := by
  obtain ⟨D, hD, hi, hf⟩ := hown
  refine wpList_plain hg fun K' hK' => ?_
  obtain ⟨w', hrun, r1, r2⟩ := hD.update mapK_law Try.underlying101 hn (keyOf_string_mk (s := ⟨k.toArray⟩) Try.underlying9 (by simpa [ByteArray.size] using hk)) (plainElem_int (H := Unit) Try.underlying3 hy)
  unfold Oper.wp
  simp [execOp, hop, hm, hx, hv, hrun, Result.andThen]
  refine hK' _ _ (hK w' ⟨_, r1, hi.put _ _, fun j => ?_⟩ r2)
  by_cases e : j = k
  · subst e; rw [atKey_put_same hi (isKeyK j)]; simp
  · rw [atKey_put_other (fun h => e (by injection h)), hf]; simp [e]
theorem wp_lookupK {w : World} {o : Oper} {a : Act} {K : Act → World → Prop} {Q : Exit → Act → World → Prop}
    (m x : Operand) (hop : o.op = Op.lookup 101 m x false) (b n : Nat) (f : List UInt8 → Int) (hm : a.eval m = .map (some b)) (hown : MapK w b n f)
    (k : List UInt8) (hx : a.eval x = SK k) (hk : k.length ≤ maxLen) (l : Int) (hl : f k = l) (hK : K (a.put o.dst (I l)) w) : o.wp Try.prog a w K Q := by
  subst hl
  obtain ⟨D, hD, hi, hf⟩ := hown
  obtain ⟨c, hrun, hat, -⟩ := hD.lookup_int mapK_law Try.underlying101 Try.underlying3 (zero_intK w) (keyOf_string_mk (s := ⟨k.toArray⟩) Try.underlying9 (by simpa [ByteArray.size] using hk))
  rw [hf k] at hat
  injection hat with hat; injection hat with _ hat
  subst hat
  unfold Oper.wp
  simp [execOp, hop, hm, hx, hrun, Result.andThen]
  exact hK
theorem wpList_lookupK {w : World} {ops : Array Oper} {rest : List Oper} {o : Oper} {a : Act} {Q : Exit → Act → World → Prop}
    (hg : o.guard = none) (m x : Operand) (hop : o.op = Op.lookup 101 m x false) (b n : Nat) (f : List UInt8 → Int) (hm : a.eval m = .map (some b)) (hown : MapK w b n f)
    (k : List UInt8) (hx : a.eval x = SK k) (hk : k.length ≤ maxLen) (l : Int) (hl : f k = l) (hK : wpList Try.prog ops Q rest (a.put o.dst (I l)) w) : wpList Try.prog ops Q (o :: rest) a w :=
  wpList_plain hg fun K' hK' => wp_lookupK m x hop b n f hm hown k hx hk l hl (hK' _ _ hK)
end Go.Proofs.Ytlafiddfplhafaa
/- The walker's places: an own row of pairs of slices. -/
namespace Go.Proofs.Ytlafiddfplhafaa
set_option linter.unusedVariables false
set_option linter.unusedSimpArgs false
open Go.RowKit
def placeCs (vs : List (Value × Value)) : List Value := vs.flatMap fun v => [v.1, v.2]
theorem placeCs_snoc (vs : List (Value × Value)) (v : Value × Value) : placeCs (vs ++ [v]) = placeCs vs ++ [v.1, v.2] := by simp [placeCs]
structure OwnP (w : World) (base : Nat) (T : TypeId) (s : Value) (ps : List Place) (vs : List (Value × Value)) : Prop where
  vl : vs.length = ps.length
  row : w.ownsRow base T 2 s ps.length (placeCs vs)
  own : ∀ (k : Nat) v (p : Place), vs[k]? = some v → ps[k]? = some p → w.ownsRow base 3 1 v.1 p.1.length (p.1.map I) ∧ w.ownsRow base 3 1 v.2 p.2.length (p.2.map I)
section
variable {w w' : World} {base : Nat} {T : TypeId} {s : Value} {ps : List Place} {vs : List (Value × Value)}
theorem OwnP.nil (w : World) (base : Nat) (T : TypeId) : OwnP w base T (.slice none 0 0) [] [] := ⟨rfl, World.ownsRow_nil _ _ _ _, fun k v p h => by simp at h⟩
theorem OwnP.ext (h : OwnP w base T s ps vs) (hx : Ext w w') : OwnP w' base T s ps vs := ⟨h.vl, own_ext h.row hx, fun k v p hv hp => ⟨own_ext (h.own k v p hv hp).1 hx, own_ext (h.own k v p hv hp).2 hx⟩⟩
theorem OwnP.push (h : OwnP w base T s ps vs) (hT : 3 ≠ T) {s' : Value} {v : Value × Value} {p : Place} (h1 : w.ownsRow base 3 1 v.1 p.1.length (p.1.map I)) (h2 : w.ownsRow base 3 1 v.2 p.2.length (p.2.map I))
    (hown : w'.ownsRow base T 2 s' (ps.length + 1) (placeCs vs ++ [v.1, v.2])) (hg : w.grownBy w' s.ownBlock) : OwnP w' base T s' (ps ++ [p]) (vs ++ [v]) := by
  have hvl := h.vl
  refine ⟨by simp [hvl], ?_, fun k y z hy hz => ?_⟩
  · rw [placeCs_snoc]; simpa using hown
  · have key : ∀ {u : Value} {xs : List Int}, w.ownsRow base 3 1 u xs.length (xs.map I) → w'.ownsRow base 3 1 u xs.length (xs.map I) := fun hu => hu.kept hg (own_types hu h.row hT)
    by_cases hk : k < vs.length
    · rw [List.getElem?_append_left hk] at hy
      rw [List.getElem?_append_left (by omega)] at hz
      exact ⟨key (h.own k y z hy hz).1, key (h.own k y z hy hz).2⟩
    · rw [List.getElem?_append_right (by omega)] at hy hz
      rw [← hvl] at hz
      cases hq : k - vs.length with
      | zero =>
        rw [hq] at hy hz
        simp at hy hz
        subst hy; subst hz
        exact ⟨key h1, key h2⟩
      | succ q => rw [hq] at hy; simp at hy
theorem OwnP.set (h : OwnP w base T s ps vs) {b : Nat} {T' : TypeId} {cs : List Value} (hb : Box w b T' cs) (hT : T ≠ T') (hi : 3 ≠ T') (k : Nat) (u : Value) : OwnP (w.setCell ⟨b, k, none⟩ u) base T s ps vs :=
  ⟨h.vl, own_set h.row (hb.apart h.row hT) _ _, fun j v p hv hp => ⟨own_set (h.own j v p hv hp).1 (hb.apart (h.own j v p hv hp).1 hi) _ _, own_set (h.own j v p hv hp).2 (hb.apart (h.own j v p hv hp).2 hi) _ _⟩⟩
theorem OwnP.mapped (h : OwnP w base T s ps vs) {mb n : Nat} {f : List UInt8 → Int} (hm : MapK w mb n f) (hg : w.grownBy w' (some mb)) : OwnP w' base T s ps vs :=
  ⟨h.vl, h.row.kept hg (.inr fun e => hm.ne_row h.row e.symm), fun j v p hv hp => ⟨(h.own j v p hv hp).1.kept hg (.inr fun e => hm.ne_row (h.own j v p hv hp).1 e.symm), (h.own j v p hv hp).2.kept hg (.inr fun e => hm.ne_row (h.own j v p hv hp).2 e.symm)⟩⟩
end
/-- The key of a state: its registers as bytes. -/
def keyK (r : List Int) : List UInt8 := r.map fun x => UInt8.ofNat x.toNat
theorem keyK_inj : ∀ {a b : List Int}, (∀ x ∈ a, x = 0 ∨ x = 1) → (∀ x ∈ b, x = 0 ∨ x = 1) → keyK a = keyK b → a = b
  | [], [], _, _, _ => rfl
  | [], _ :: _, _, _, h => by simp [keyK] at h
  | _ :: _, [], _, _, h => by simp [keyK] at h
  | x :: a, y :: b, ha, hb, h => by
    simp only [keyK, List.map_cons, List.cons.injEq] at h
    have ih := keyK_inj (fun z hz => ha z (by simp [hz])) (fun z hz => hb z (by simp [hz])) h.2
    have h0 := h.1
    subst ih
    congr 1
    rcases ha x (by simp) with rfl | rfl <;> rcases hb y (by simp) with rfl | rfl <;> first | rfl | (revert h0; decide)
/-- The map of the places: 1 where a place is, else 0. -/
def SeenOf (ps : List Place) (f : List UInt8 → Int) : Prop := ∀ r : List Int, (∀ x ∈ r, x = 0 ∨ x = 1) → f (keyK r) = if seenM ps r then 1 else 0
theorem SeenOf.start : SeenOf [] (fun _ => 0) := fun r _ => by simp [seenM]
theorem SeenOf.add {ps : List Place} {f : List UInt8 → Int} (h : SeenOf ps f) {p : Place} (hp : ∀ x ∈ p.1, x = 0 ∨ x = 1) : SeenOf (ps ++ [p]) (fun j => if j = keyK p.1 then 1 else f j) := by
  intro r hr
  by_cases e : p.1 = r
  · subst e
    have hs : seenM (ps ++ [p]) p.1 = true := by unfold seenM; rw [List.any_append]; simp
    show (if keyK p.1 = keyK p.1 then (1 : Int) else f (keyK p.1)) = _
    rw [if_pos rfl, hs]; rfl
  · have hk : ¬ keyK r = keyK p.1 := fun q => e (keyK_inj hr hp q).symm
    show (if keyK r = keyK p.1 then (1 : Int) else f (keyK r)) = _
    have hs : seenM (ps ++ [p]) r = seenM ps r := by unfold seenM; rw [List.any_append]; simp [e]
    rw [if_neg hk, h r hr, hs]
end Go.Proofs.Ytlafiddfplhafaa
/- The rule of Flow for regions whose first operation (the base of what is stored last) is free beside the rest. -/
namespace Go.Proofs.Ytlafiddfplhafaa
set_option linter.unusedVariables false
set_option linter.unusedSimpArgs false
open Go.RowKit
/-- Each operation behind the first m waits for all of these but the very first. -/
def sufOK5 (ops : Array Oper) (m : Nat) : Bool := (List.range ops.size).all fun i => decide (i < m) || match ops[i]? with | some o => (List.range m).all (fun j => decide (j = 0) || needsOp ops 40 j o) | none => true
/-- All of the first m are listed but the very first. -/
def preZ (m n : Nat) : Array Bool := (preL m n).setIfInBounds 0 false
theorem preZ_get (m n j : Nat) (hj : j ≠ 0) : (preZ m n).getD j false = (preL m n).getD j false := by
  unfold preZ
  rw [Array.getD_eq_getD_getElem?, Array.getElem?_setIfInBounds_ne (fun e => hj e.symm), ← Array.getD_eq_getD_getElem?]
theorem preL_get (m n j : Nat) (hj : j < m) : (preL m n).getD j false = true := by
  rw [Array.getD_eq_getD_getElem?]
  simp [preL, List.getElem?_append, hj]
theorem wpAny_inv_pre5 {P : Program} {ops : Array Oper} {Q : Exit → Act → World → Prop} {m n : Nat} (hm0 : 0 < m) (hsz : ops.size = m + n) (hsuf : sufOK5 ops m = true) (I : Array Bool → Act → World → Prop) (hcl : ∀ listed a w, I listed a w → Closed ops listed)
    (step : ∀ listed a w i, listed.size = ops.size → I listed a w → i < m → i ∈ Region.ready .any ops listed → wpOp P ops Q i (I (listed.setIfInBounds i true)) a w)
    (ready : ∀ listed a w, listed.size = ops.size → I listed a w → Region.ready .any ops listed = [] → ∀ j : Nat, j < m → listed.getD j false = true)
    (rest : ∀ a w, I (preL m n) a w → wpAny P .any ops Q n (preL m n) a w)
    (restZ : ∀ a w, I (preZ m n) a w → wpAny P .any ops Q (n + 1) (preZ m n) a w) :
    ∀ (k : Nat) (listed : Array Bool) (a : Act) (w : World), listed.size = ops.size → listed.toList.count false = n + k → (∀ j : Nat, m ≤ j → listed.getD j false = false) → I listed a w → wpAny P .any ops Q (n + k) listed a w
  | 0, listed, a, w, hs, hc, h2, hI => by
    have := listed_pre (m := m) (n := n) (by omega) (count_true_pre (m := m) (n := n) (by omega) (by omega) h2) h2
    subst this
    exact rest a w hI
  | k + 1, listed, a, w, hs, hc, h2, hI => by
    have hnot : ¬ ∀ j : Nat, j < m → listed.getD j false = true := by
      intro h
      have e := listed_pre (m := m) (n := n) (by omega) h h2
      rw [e] at hc
      simp [preL, List.count_append, List.count_replicate] at hc
    by_cases hall : ∀ j : Nat, 0 < j → j < m → listed.getD j false = true
    · have h0 : listed.getD 0 false = false := by
        cases h0 : listed.getD 0 false with
        | false => rfl
        | true =>
          exact absurd (fun j hj => by
            rcases Nat.eq_zero_or_pos j with e | e
            · subst e; exact h0
            · exact hall j e hj) hnot
      have hl1 : listed.setIfInBounds 0 true = preL m n := listed_pre (by simpa using (by omega : listed.size = m + n)) (fun j hj => by
          rcases Nat.eq_zero_or_pos j with e | e
          · subst e
            rw [Array.getD_eq_getD_getElem?, Array.getElem?_setIfInBounds_self_of_lt (by omega)]; rfl
          · rw [getD_set_ne false (by omega)]; exact hall j e hj) (fun j hj => by rw [getD_set_ne false (by omega)]; exact h2 j hj)
      have hl2 : listed = preZ m n := by
        unfold preZ
        rw [← hl1]
        refine Array.ext_getElem? fun j => ?_
        by_cases e : 0 = j
        · subst e
          rw [Array.getElem?_setIfInBounds_self_of_lt (by simp; omega)]
          have hlt : 0 < listed.size := by omega
          simp only [Array.getD, hlt, dif_pos] at h0
          rw [Array.getElem?_eq_getElem hlt]; exact congrArg some h0
        · rw [Array.getElem?_setIfInBounds_ne e, Array.getElem?_setIfInBounds_ne e]
      have hk : k = 0 := by
        have hlt : 0 < listed.size := by omega
        have hx : listed.toList[0]'(by simpa using hlt) = false := by
          simp only [Array.getD, hlt, dif_pos] at h0
          simpa using h0
        have hcs := List.count_set (a := true) (b := false) (l := listed.toList) (i := 0) (by simpa using hlt)
        rw [← Array.toList_setIfInBounds, hl1, hx] at hcs
        have e1 : (if (false == false) = true then 1 else 0) = 1 := rfl
        have e2 : (if (true == false) = true then 1 else 0) = 0 := rfl
        rw [e1, e2] at hcs
        have : (preL m n).toList.count false = n := by simp [preL, List.count_append, List.count_replicate]
        omega
      subst hk
      rw [hl2]
      rw [hl2] at hI
      exact restZ a w hI
    show wpAny P .any ops Q ((n + k) + 1) listed a w
    refine ⟨fun hr => absurd (ready listed a w hs hI hr) hnot, fun i hi => ?_⟩
    have hi2 := hi
    have him : i < m := by
      rcases Nat.lt_or_ge i m with q | q
      · exact q
      · exfalso; apply hall
        obtain ⟨o, ho, hdep⟩ := ready_of hi
        have h3 := List.all_eq_true.1 hsuf i (List.mem_range.2 (Array.getElem?_eq_some_iff.1 ho).1)
        rw [ho] at h3
        simp only [Bool.or_eq_true, decide_eq_true_eq] at h3
        rcases h3 with h3 | h3
        · omega
        · intro j hj0 hj
          have h4 := List.all_eq_true.1 h3 j (List.mem_range.2 hj)
          rw [Bool.or_eq_true, decide_eq_true_eq] at h4
          exact needsOp_spec (hcl listed a w hI) _ o (h4.resolve_left (by omega)) hdep
    refine wpOp_mono (fun a' w' h => wpAny_inv_pre5 hm0 hsz hsuf I hcl step ready rest restZ k _ a' w' (by simpa using hs) ?_ ?_ h) (step listed a w i hs hI him hi)
    · have hm : i < ops.size ∧ listed.getD i true = false := by
        unfold Region.ready at hi2
        obtain ⟨g1, g2⟩ := List.mem_filter.1 hi2
        refine ⟨List.mem_range.1 g1, ?_⟩
        simp only [Bool.and_eq_true, Bool.not_eq_true'] at g2
        exact g2.1
      obtain ⟨g1, g2⟩ := hm
      have hlt : i < listed.size := by omega
      have hx : listed.toList[i]'(by simpa using hlt) = false := by simpa [Array.getD, hlt] using g2
      have := List.count_set (a := true) (b := false) (l := listed.toList) (i := i) (by simpa using hlt)
      simp only [Array.toList_setIfInBounds]
      have hpos : 0 < listed.toList.count false := List.count_pos_iff.2 (by rw [← hx]; exact List.getElem_mem _)
      rw [this, hx]
      have e1 : (if (false == false) = true then 1 else 0) = 1 := rfl
      have e2 : (if (true == false) = true then 1 else 0) = 0 := rfl
      rw [e1, e2]; omega
    · intro j hj
      rw [getD_set_ne false (by omega)]; exact h2 j hj
/-- THE RULE, where the very first operation is free beside all behind the front: the rest from two states. -/
theorem wp_flow5 {P : Program} {o0 : Oper} {l : List Oper} {Q : Exit → Act → World → Prop} {id : Nat} {a0 : Act} {W0 : World} (m n : Nat) (F0 : Fact) (Fs : List Fact) (hm : P.follows .mixedOrders = true) (hln : l.length = m + n) (hfl : Fs.length = m)
    (hok : flowOK ((o0 :: l).take (m + 1)).toArray a0.tmps.size = true) (hsuf : sufOK5 (o0 :: l).toArray (m + 1) = true)
    (mono : factsMono (F0 :: Fs)) (each : AllFrom (StepOK3 P (o0 :: l).toArray (m + 1) Q W0 a0 (facts (F0 :: Fs))) 0 ((o0 :: l).take (m + 1)))
    (rest : ∀ w, Ext W0 w → ForFacts (F0 :: Fs) w (fun vs => wpAny P .any (o0 :: l).toArray Q n (preL (m + 1) n) (putAll a0 ((o0 :: l).take (m + 1)) vs) w))
    (restZ : ∀ w, Ext W0 w → ForFacts Fs w (fun vs => wpAny P .any (o0 :: l).toArray Q (n + 1) (preZ (m + 1) n) (putAll a0 (l.take m) vs) w)) : (Code.region id (o0 :: l).toArray true).wp P Q a0 W0 := by
  have hsz : (o0 :: l).toArray.size = (m + 1) + n := by simp; omega
  have hlt : ((o0 :: l).take (m + 1)).length = m + 1 := by simp; omega
  have hpo : ∀ i o, i < m + 1 → (o0 :: l).toArray[i]? = some o → ((o0 :: l).take (m + 1)).toArray[i]? = some o := fun i o hi ho => by
    rw [List.getElem?_toArray, List.getElem?_take_of_lt hi]; simpa using ho
  have hdep : ∀ i o e, i < m + 1 → (o0 :: l).toArray[i]? = some o → e ∈ o.after.toList → Region.binds .any e = true → e.on < i := fun i o e hi ho he hbd => by
    obtain ⟨d, -, -, -, h4⟩ := flow_dst hok (hpo i o hi ho)
    exact h4 e he hbd
  refine wp_region_any hm ?_
  have key := wpAny_inv_pre5 (P := P) (Q := Q) (Nat.succ_pos m) hsz hsuf (fun listed a w => (listed.size = (m + 1) + n ∧ Closed (o0 :: l).toArray listed ∧ (listed.getD 0 false = false → ∀ d, o0.dst = some d → a.tmps[d]? = a0.tmps[d]?)) ∧ Flow W0 a0 ((o0 :: l).take (m + 1)).toArray (facts (F0 :: Fs)) (listed.extract 0 (m + 1)) a w) (fun listed a w h => h.1.2.1) ?_ ?_ ?_ ?_ (m + 1) (Array.replicate (o0 :: l).toArray.size false) a0 { W0 with drawn := W0.drawn + 1 } (by simp) ?_ ?_ ?_
  · rw [Nat.add_comm] at key; rw [← hsz] at key; exact key
  · rintro listed a w i hs ⟨⟨hI0, hC, hZ⟩, hI⟩ him hi
    obtain ⟨o, ho, hd⟩ := ready_of hi
    have ho' := hpo i o him ho
    have hl : ((o0 :: l).take (m + 1))[i]? = some o := by simpa using ho'
    have hst := each.at_ i o hl
    rw [Nat.zero_add] at hst
    have hext : ∀ j : Nat, j < m + 1 → (listed.extract 0 (m + 1)).getD j false = listed.getD j false := fun j hj => by
      rw [Array.getD_eq_getD_getElem?, Array.getD_eq_getD_getElem?, Array.getElem?_extract, if_pos (by omega), Nat.zero_add]
    have hset : (listed.setIfInBounds i true).extract 0 (m + 1) = (listed.extract 0 (m + 1)).setIfInBounds i true := by
      refine Array.ext_getElem? fun j => ?_
      rw [Array.getElem?_extract]
      by_cases hj : j < m + 1
      · rw [if_pos (by simp; omega), Nat.zero_add]
        by_cases e : i = j
        · subst e
          rw [Array.getElem?_setIfInBounds_self_of_lt (by omega), Array.getElem?_setIfInBounds_self_of_lt (by simp; omega)]
        · rw [Array.getElem?_setIfInBounds_ne e, Array.getElem?_setIfInBounds_ne e, Array.getElem?_extract, if_pos (by omega), Nat.zero_add]
      · rw [if_neg (by omega), Array.getElem?_eq_none (by simp; omega)]
    have hZ' : ∀ v, (listed.setIfInBounds i true).getD 0 false = false → ∀ d, o0.dst = some d → (a.put o.dst v).tmps[d]? = a0.tmps[d]? := fun v h0 d hd0 => by
      have hi0 : i ≠ 0 := by
        rintro rfl
        rw [Array.getD_eq_getD_getElem?, Array.getElem?_setIfInBounds_self_of_lt (by omega)] at h0
        cases h0
      rw [getD_set_ne false (by omega)] at h0
      obtain ⟨d', h1, -, h3, -⟩ := flow_dst hok ho'
      have hne := h3 0 o0 (by omega) (by simp)
      rw [h1]
      have : d' ≠ d := fun e => hne (by rw [hd0, e])
      simp only [Act.put]
      rw [Array.getElem?_setIfInBounds_ne this]
      exact hZ h0 d hd0
    rcases hst a w hI.ext (fun i' d hw hd' => by
        obtain ⟨o', h1, h2⟩ := dstIs_spec hd'
        have hi' : i' < i := by
          obtain ⟨e, he, h2⟩ := Array.any_eq_true'.1 hw
          simp only [Bool.and_eq_true, beq_iff_eq] at h2
          rw [← h2.1]; exact hdep i o e him ho (by simpa using he) h2.2
        refine hI.slot i' o' d ?_ (hpo i' o' (by omega) h1) h2
        rw [hext i' (by omega)]; exact waitsFor_spec hw hd) (fun s h => hI.base s (freeSlot_spec h)) with ⟨h1, h2⟩ | ⟨h1, h2⟩
    · refine wpOp_step' ho h1 (h2 _ fun v w' hv hx => ⟨⟨by simpa using hI0, hC.set hs hi, hZ' v⟩, ?_⟩)
      rw [hset]
      exact hI.put hok (facts_mono mono) (by simp; omega) ho' hv hx
    · refine wpOp_skip' ho h1 ⟨⟨by simpa using hI0, hC.set hs hi, hZ' undef⟩, ?_⟩
      rw [hset]
      exact hI.put hok (facts_mono mono) (by simp; omega) ho' h2 (Ext.refl _)
  · rintro listed a w hs ⟨⟨hI0, -, -⟩, hI⟩ hr
    have : ∀ (k j : Nat), j < k → j < m + 1 → listed.getD j false = true := by
      intro k
      induction k with
      | zero => intro j h; omega
      | succ k ih =>
        intro j h1 h2
        by_cases hl : listed.getD j false = true
        · exact hl
        · exfalso
          have hj : (o0 :: l).toArray[j]? = some (o0 :: l).toArray[j] := Array.getElem?_eq_getElem (by omega)
          have hmem : j ∈ Region.ready .any (o0 :: l).toArray listed := by
            unfold Region.ready
            refine List.mem_filter.2 ⟨List.mem_range.2 (by omega), ?_⟩
            rw [hj]
            simp only [Bool.and_eq_true, Option.map_some, Option.getD_some]
            refine ⟨?_, Array.all_eq_true'.2 fun e he => ?_⟩
            · have h2' : j < listed.size := by omega
              simp only [Array.getD, h2', dif_pos] at hl ⊢
              simpa using hl
            · cases hbd : Region.binds .any e with
              | false => rfl
              | true =>
                have he' := hdep j _ e h2 hj (by simpa using he) hbd
                rw [ih e.on (by omega) (by omega)]; rfl
          rw [hr] at hmem; cases hmem
    exact fun j hj => this (j + 1) j (Nat.lt_succ_self j) hj
  · rintro a w ⟨-, hI⟩
    have hx := rest w hI.ext
    obtain ⟨vs, g1, g2, g3⟩ := forFacts_get (a := a) (os := (o0 :: l).take (m + 1)) (by rw [List.length_cons, hfl, hlt]) hx (fun j o hj => by
      obtain ⟨d, h1, h2, -, -⟩ := flow_dst hok (by simpa using hj)
      have hjm : j < m + 1 := by have := (List.getElem?_eq_some_iff.1 hj).1; omega
      obtain ⟨v, k1, k2⟩ := hI.slot j o d (by
        rw [Array.getD_eq_getD_getElem?, Array.getElem?_extract]
        rw [if_pos (by simp [preL]; omega)]
        simp [preL, List.getElem?_append, hjm]) (by simpa using hj) h1
      exact ⟨d, v, h1, k1, k2⟩)
    have ha : a = putAll a0 ((o0 :: l).take (m + 1)) vs := eq_putAll g1 hI.size hI.defers (fun s hs => hI.base s (fun j o ho => hs o (by
        have : ((o0 :: l).take (m + 1))[j]? = some o := by simpa using ho
        exact List.mem_of_getElem? this))) (fun j o d hj hd => by
      obtain ⟨d', h1, h2, -, -⟩ := flow_dst hok (j := j) (by simpa using hj)
      rw [hd] at h1; injection h1 with h1; subst h1
      exact ⟨h2, g3 j o d hj hd⟩)
    rw [ha]; exact g2
  · rintro a w ⟨⟨-, -, hZ⟩, hI⟩
    have hx := restZ w hI.ext
    have htk : (o0 :: l).take (m + 1) = o0 :: l.take m := rfl
    have hat : ∀ (j : Nat) (o : Oper), (l.take m)[j]? = some o → ((o0 :: l).take (m + 1)).toArray[j + 1]? = some o := fun j o hj => by
      rw [List.getElem?_toArray, htk, List.getElem?_cons_succ]; exact hj
    obtain ⟨vs, g1, g2, g3⟩ := forFacts_get (a := a) (os := l.take m) (by rw [hfl]; simp; omega) hx (fun j o hj => by
      obtain ⟨d, h1, h2, -, -⟩ := flow_dst hok (hat j o hj)
      have hjm : j < m := by have := (List.getElem?_eq_some_iff.1 hj).1; simp at this; omega
      obtain ⟨v, k1, k2⟩ := hI.slot (j + 1) o d (by
        rw [Array.getD_eq_getD_getElem?, Array.getElem?_extract, if_pos (by simp [preZ, preL]; omega), Nat.zero_add, ← Array.getD_eq_getD_getElem?, preZ_get _ _ _ (by omega)]
        exact preL_get _ _ _ (by omega)) (hat j o hj) h1
      exact ⟨d, v, h1, k1, k2⟩)
    have ha : a = putAll a0 (l.take m) vs := eq_putAll g1 hI.size hI.defers (fun s hs => ?_) (fun j o d hj hd => by
      obtain ⟨d', h1, h2, -, -⟩ := flow_dst hok (hat j o hj)
      rw [hd] at h1; injection h1 with h1; subst h1
      exact ⟨h2, g3 j o d hj hd⟩)
    · rw [ha]; exact g2
    · by_cases e : o0.dst = some s
      · exact hZ (by simp [preZ, preL, Array.getD]) s e
      · exact hI.base s (fun j o ho => by
          rw [List.getElem?_toArray, htk] at ho
          cases j with
          | zero => simp only [List.getElem?_cons_zero, Option.some.injEq] at ho; subst ho; exact e
          | succ j => exact hs o (List.mem_of_getElem? (by simpa using ho)))
  · rw [Array.toList_replicate, List.count_replicate]; simp; omega
  · intro j hj
    rw [Array.getD_eq_getD_getElem?, Array.getElem?_replicate]
    split <;> rfl
  · exact ⟨⟨by simpa using hsz, (fun i o h => by
      rw [Array.getD_eq_getD_getElem?, Array.getElem?_replicate] at h
      split at h <;> cases h), fun _ d _ => rfl⟩, ⟨(Ext.refl W0).drew, rfl, rfl, fun s _ => rfl, fun j o d h _ _ => by
      rw [Array.getD_eq_getD_getElem?, Array.getElem?_extract] at h
      split at h
      · rw [Array.getElem?_replicate] at h; split at h <;> cases h
      · cases h⟩⟩
end Go.Proofs.Ytlafiddfplhafaa
/- walker.reach: a place is reached. -/
namespace Go.Proofs.Ytlafiddfplhafaa
set_option linter.unusedVariables false
set_option linter.unusedSimpArgs false
open Go.RowKit
abbrev B8 (x : Int) : Value := .int .u8 x
theorem tab_byte : (Try.prog.info? 5).map (fun i => (i.zero, i.size, i.bytes)) = some (some (.int .u8 0), 1, 1) := by kernel_rfl
theorem b8_next {l : List Int} {k : Nat} {x : Int} (h : l[k]? = some x) : (l.take (k + 1)).map B8 = (l.take k).map B8 ++ [B8 x] := by rw [List.take_add_one, h]; simp
theorem conv_key {w : World} {base n : Nat} {s : Value} {r : List Int} (h : w.ownsRow base 5 1 s n (r.map B8)) (h01 : ∀ x ∈ r, x = 0 ∨ x = 1) : (convert 158 9 s).run Try.prog w = .ok (SK (keyK r)) w := by
  have hl : r.length = n := by have := h.1; simpa using this
  rcases h.2 with ⟨rfl, h0⟩ | ⟨g, cap, cur, rfl, _⟩
  · subst h0
    obtain rfl : r = [] := List.eq_nil_of_length_eq_zero hl
    rw [run_convert_bytes_string w 158 9 5 none 0 0 Try.underlying158 Try.underlying5 Try.underlying9]
    simp [Conv.bytesToString, keyK, SK]
    rfl
  · have hk : (keyK r).length = n := by unfold keyK; simpa using hl
    have e := run_convert_bytes_back (P := Try.prog) w 158 9 5 ⟨g, 0, none⟩ cap (keyK r) Try.underlying158 Try.underlying5 Try.underlying9 (fun j hj => by
      have hc := h.cellAt j (by omega)
      rw [add_plain', Nat.zero_add, hc, List.getElem?_map, List.getElem?_eq_getElem (show j < r.length by omega)]
      have hx := h01 _ (List.getElem_mem (show j < r.length by omega))
      simp only [keyK, List.getElem_map, Option.map_some]
      rcases hx with e | e <;> rw [e] <;> rfl)
    rw [hk] at e
    exact e
/-- The walker, as it stands after the places ps. -/
structure WalkerW (w : World) (base b : Nat) (i : Int) (G R O : Value) (mb : Nat) (s : Value) (ps : List Place) (vs : List (Value × Value)) : Prop where
  box : Box w b 104 [I i, G, R, O, .map (some mb), s]
  map : ∃ f, MapK w mb ps.length f ∧ SeenOf ps f
  rows : OwnP w base 142 s ps vs
  hge : base ≤ b ∧ base ≤ mb
section
variable {w w' : World} {base b : Nat} {i : Int} {G R O : Value} {mb : Nat} {s : Value} {ps : List Place} {vs : List (Value × Value)}
theorem WalkerW.ext (h : WalkerW w base b i G R O mb s ps vs) (hx : Ext w w') : WalkerW w' base b i G R O mb s ps vs := by
  obtain ⟨f, h1, h2⟩ := h.map
  exact ⟨h.box.ext hx, ⟨f, h1.ext hx, h2⟩, h.rows.ext hx, h.hge⟩
end
/-- A place more, if it is new; none: there are too many. -/
def addM (ps : List Place) (p : Place) : Option (List Place) := if seenM ps p.1 then some ps else if ps.length = 64 then none else some (ps ++ [p])
/-- All other blocks are as they were, and the row of places lies in none of them. -/
def Beside (w w' : World) (b mb : Nat) (s s' : Value) : Prop := ∀ k, k < w.heap.size → k ≠ b → k ≠ mb → some k ≠ s.ownBlock → w'.heap[k]? = w.heap[k]? ∧ some k ≠ s'.ownBlock
theorem Beside.ext {w w' : World} {b mb : Nat} {s : Value} (h : Ext w w') : Beside w w' b mb s s := fun k hk _ _ h4 => ⟨h.block k hk, h4⟩
theorem Beside.box {w w' : World} {b mb : Nat} {s s' : Value} (h : Beside w w' b mb s s') {g : Nat} {T : TypeId} {cs : List Value} (hb : Box w g T cs) (h1 : g ≠ b) (h2 : g ≠ mb) (h3 : some g ≠ s.ownBlock) : Box w' g T cs ∧ some g ≠ s'.ownBlock :=
  have q := h g hb.lt h1 h2 h3
  ⟨q.1.trans hb, q.2⟩
theorem Box.ne {w : World} {b g : Nat} {T T' : TypeId} {cs cs' : List Value} (h : Box w b T cs) (k : Box w g T' cs') (hne : T ≠ T') : b ≠ g := by
  rintro rfl
  unfold Box at h k
  rw [h] at k
  injection k with k; injection k with _ k
  exact hne k
theorem tab_place : (Try.prog.info? 142).map (fun i => (i.zero, i.size, i.bytes)) = some (some (.agg #[.slice none 0 0, .slice none 0 0]), 2, 48) := by kernel_rfl
section
variable {w w' : World} {base b : Nat} {i : Int} {G R O : Value} {mb : Nat} {s : Value} {ps : List Place} {vs : List (Value × Value)}
theorem WalkerW.lts (h : WalkerW w base b i G R O mb s ps vs) : base ≤ w.heap.size ∧ b < w.heap.size ∧ mb < w.heap.size := by
  obtain ⟨f, h1, h2⟩ := h.map
  have := h.box.lt; have := h1.lt; have := h.hge
  omega
end
/-- What reach tells. -/
def WentTo (q : Option (List Place)) (e : Ending) (w' : World) (base b : Nat) (i : Int) (G R O : Value) (mb : Nat) (s' : Value) (vs' : List (Value × Value)) : Prop :=
  match q with
  | none => e = .returned (.bool false)
  | some qs => e = .returned (.bool true) ∧ WalkerW w' base b i G R O mb s' qs vs'
structure ReachP (w w' : World) (base b mb : Nat) (i : Int) (G R O : Value) (s : Value) (q : Option (List Place)) (e : Ending) : Prop where
  below : Below base w w'
  went : ∃ s' vs', Beside w w' b mb s s' ∧ WentTo q e w' base b i G R O mb s' vs'
set_option maxRecDepth 100000 in
set_option maxHeartbeats 4000000 in
theorem reach_any (base b : Nat) (i : Int) (G R O : Value) (mb : Nat) (s : Value) (ps : List Place) (vs : List (Value × Value)) (A : Option Addr) (n c : Nat) (vw : Value) (r way : List Int) (w : World) (h : WalkerW w base b i G R O mb s ps vs)
    (h1 : w.ownsRow base 3 1 (.slice A n c) n (r.map I)) (h2 : w.ownsRow base 3 1 vw way.length (way.map I)) (hn : n ≤ 1000) (h01 : ∀ x ∈ r, x = 0 ∨ x = 1) (h64 : ps.length ≤ 64) :
    Calls Try.prog 84 #[.pointer (some ⟨b, 0, none⟩), .agg #[.slice A n c, vw]] w fun e w' => ReachP w w' base b mb i G R O s (addM ps (r, way)) e := by
  obtain ⟨W, hW⟩ : ∃ W, W = w.alloc (.cells #[.slice A n c, vw] 142) := ⟨_, rfl⟩
  have hxW : Ext w W := by rw [hW]; exact (Ext.refl _).alloc _
  have p0 : W.cell? ⟨w.heap.size, 0, none⟩ = some (.slice A n c) := by rw [hW, World.cell?_alloc_new]; rfl
  have hbp : Box W w.heap.size 142 [.slice A n c, vw] := by rw [hW]; exact Box.new w _ _
  have hlts := h.lts
  obtain ⟨A1, c1, e1, -, -, hsl⟩ := own_sl h1
  injection e1 with e1 _ e2; subst e1; subst e2
  have hrl : r.length = n := hsl.len
  have H := Lib.hid (hsl.keep hxW.keeps); have HW := Lib.hid hW; have HX := Lib.hid hxW; have H01 := Lib.hid h01; have HWK := Lib.hid (h.ext hxW); have H1 := Lib.hid (own_ext h1 hxW); have H2 := Lib.hid (own_ext h2 hxW)
  have HBP := Lib.hid hbp; have HRL := Lib.hid hrl; have HLT := Lib.hid hlts; have HWKS := Lib.hid h
  obtain ⟨pn, hpn⟩ : ∃ pn, pn = ps.length := ⟨_, rfl⟩
  have HPN := Lib.hid hpn
  obtain ⟨pA, pc, rfl, -, -, -⟩ := own_slice h.rows.row
  rw [hW] at p0
  rw [← hpn] at h64
  clear h hW hxW h01 h1 h2 hsl hbp hrl hlts
  rw [← hpn] at HWK HWKS
  clear hpn
  go_enter Try.func84, Try.ntmps84
  go_wp2_with fail
  rw [← HW.out]
  clear p0
  go_loopw [5, 12] (fun s j wr => ∃ (k : Nat), k ≤ n ∧ j = .int .i64 k ∧ Ext W wr ∧ wr.ownsRow W.heap.size 5 1 s k ((r.take k).map B8)) (fun _ j _ => n - (intOf j).toNat)
  case atStart => exact ⟨0, Nat.zero_le _, rfl, Ext.refl _, World.ownsRow_nil _ _ _ _⟩
  case round =>
    obtain ⟨k, hk, rfl, hext, hown⟩ := hrel
    by_cases hlt : k < n
    · obtain ⟨b2, off, x, rfl, hc0, hx⟩ := H.out.at_ hlt
      have hc := hext.keeps _ _ hc0
      have HO := Lib.hid hown; have HM := Lib.hid (b8_next hx); have HE := Lib.hid hext
      have hwr : IntKind.u8.wrap x = x := by rcases H01.out x (List.mem_of_getElem? hx) with rfl | rfl <;> rfl
      clear hown hc0 hx hext h64
      go_wp2_with (at_builtin; refine wpList_push rfl (.tmp 16) (.tmp 19) 158 5 rfl tab_byte Try.underlying158 rfl (by omega) W wr HE.out _ k _ rfl HO.out [B8 x] rfl rfl rfl (by simp [Value.oneCell']) (by unfold maxLen; omega) (by omega) ?_; intro v' w2 hown2 hx3 _)
      go_roundw
      case rel => exact ⟨k + 1, by omega, by go_num, hx3, by rw [HM.out]; exact hown2⟩
      case measure => simp [intOf]; omega
    · obtain rfl : k = n := by omega
      have htk : r.take k = r := List.take_of_length_le (by rw [HRL.out]; exact Nat.le_refl _)
      rw [htk] at hown
      have hcv := conv_key hown H01.out
      obtain ⟨wb, hwb⟩ : ∃ q, q = wr := ⟨_, rfl⟩
      subst hwb
      have hw := HWK.out.ext hext
      obtain ⟨f, hmap, hseen⟩ := hw.map
      rw [← HPN.out] at hmap
      have hf := hseen r H01.out
      have hkl : (keyK r).length ≤ maxLen := by unfold keyK maxLen; rw [List.length_map, HRL.out]; omega
      have m0 := hw.box.cell
      have m4 := (m0 4).trans rfl; have m5 := (m0 5).trans rfl
      simp only [List.getElem?_cons_zero, List.getElem?_cons_succ] at m4 m5
      have HF := Lib.hid hf; have HMAP := Lib.hid hmap; have HSEEN := Lib.hid hseen; have HWB := Lib.hid hw; have HKL := Lib.hid hkl; have XB := Lib.hid (HX.out.trans hext); have XBW := Lib.hid hext
      clear m0 hf hmap hseen hw hkl hown htk hext
      have hadd : Hid (addM ps (r, way) = if seenM ps r then some ps else if ps.length = 64 then none else some (ps ++ [(r, way)])) := rfl
      cases hs : seenM ps r with
      | true =>
        rw [hs] at HF hadd
        have hA : Hid (addM ps (r, way) = some ps) := hadd.out
        clear hadd
        have HF1 : Hid (f (keyK r) = 1) := HF.out
        go_wp2_with (refine wpList_lookupK rfl _ _ rfl mb pn f rfl HMAP.out (keyK r) rfl HKL.out 1 HF1.out ?_)
        go_ret
        refine ⟨Below.mono XB.out HLT.out.1, _, vs, Beside.ext XB.out, ?_⟩
        rw [hA.out]
        exact ⟨rfl, by have := HWB.out; rw [HPN.out] at this; exact this⟩
      | false =>
        rw [hs] at HF hadd
        have HF0 : Hid (f (keyK r) = 0) := HF.out
        by_cases he : pn = 64
        · have hA : Hid (addM ps (r, way) = none) := hadd.out.trans (by rw [← HPN.out, he]; rfl)
          clear hadd
          subst he
          go_wp2_with (refine wpList_lookupK rfl _ _ rfl mb _ f rfl HMAP.out (keyK r) rfl HKL.out 0 HF0.out ?_)
          go_ret
          refine ⟨Below.mono XB.out HLT.out.1, _, vs, Beside.ext XB.out, ?_⟩
          rw [hA.out]
          exact rfl
        · have hA : Hid (addM ps (r, way) = some (ps ++ [(r, way)])) := hadd.out.trans (by rw [← HPN.out, if_neg (by simp), if_neg he])
          clear hadd
          have hlt2 : pn < 64 := by omega
          go_upto_region 12 with (refine wpList_lookupK rfl _ _ rfl mb pn f rfl HMAP.out (keyK r) rfl HKL.out 0 HF0.out ?_)
          go_wp2_with (refine wpList_updateK rfl _ _ _ rfl mb pn f rfl HMAP.out (by unfold maxLen; omega) (keyK r) 1 rfl rfl HKL.out rfl ?_; intro wq hmq hgq)
          have hbw := HWB.out.box
          have hnb : b ≠ mb := HMAP.out.ne_box hbw
          have hbq := hbw.kept hgq (fun e => hnb (by injection e with e; exact e.symm))
          have hpb := HBP.out.ext XBW.out
          have hnp : w.heap.size ≠ mb := HMAP.out.ne_box hpb
          have hpq := hpb.kept hgq (fun e => hnp (by injection e with e; exact e.symm))
          have hrq := HWB.out.rows.mapped HMAP.out hgq
          have h1b := own_ext H1.out XBW.out; have h2b := own_ext H2.out XBW.out
          have h1q := h1b.kept hgq (.inr fun e => HMAP.out.ne_row h1b e.symm)
          have h2q := h2b.kept hgq (.inr fun e => HMAP.out.ne_row h2b e.symm)
          have HBQ := Lib.hid hbq; have HPQ := Lib.hid hpq; have HRQ := Lib.hid hrq; have H1Q := Lib.hid h1q; have H2Q := Lib.hid h2q; have HMQ := Lib.hid hmq; have HGQ := Lib.hid hgq
          have M5 : Hid (wq.cell? ⟨b, 5, none⟩ = some (.slice pA pn pc)) := hbq.cell 5
          have P0 : Hid (wq.cell? ⟨w.heap.size, 0, none⟩ = some (.slice A k c)) := hpq.cell 0
          have P1 : Hid (wq.cell? ⟨w.heap.size, 1, none⟩ = some vw) := hpq.cell 1
          clear hbw hnb hbq hpb hnp hpq hrq h1b h2b h1q h2q hmq hgq m4 m5 hcv
          refine wp_flow5 6 4 (isV (.pointer (some ⟨b, 0, none⟩))) [isV (.pointer (some ⟨b, 0, none⟩)), isV (.pointer (some ⟨b, 0, none⟩)), isV (.pointer (some ⟨b, 5, none⟩)), isV (.slice pA pn pc), isV (.agg #[.slice A k c, vw]), fun v w => ∃ g, v = .slice (some ⟨g, 0, none⟩) 1 1 ∧ Box w g 142 [.slice A k c, vw]] (by kernel_rfl) rfl rfl (by kernel_rfl) (by kernel_rfl) ⟨isV_mono, isV_mono, isV_mono, isV_mono, isV_mono, isV_mono, fun v w w' ⟨g, e, h⟩ hx => ⟨g, e, h.ext hx⟩, trivial⟩ ?each ?rest ?restZ
          case each =>
            refine .cons ?_ (.cons ?_ (.cons ?_ (.cons ?_ (.cons ?_ (.cons ?_ (.cons ?_ (.nil)))))))
            · intro fa fw hx hs hb
              have s0 : fa.tmps[(0 : Nat)]? = some (.pointer (some ⟨b, 0, none⟩)) := (hb 0 (by kernel_rfl)).trans (by rfl)
              refine .inl ⟨wanted_free rfl, fun K hK => ?_⟩
              clear hs hb hx
              go_simp
              exact hK _ _ rfl (Ext.refl _)
            · intro fa fw hx hs hb
              have s0 : fa.tmps[(0 : Nat)]? = some (.pointer (some ⟨b, 0, none⟩)) := (hb 0 (by kernel_rfl)).trans (by rfl)
              refine .inl ⟨wanted_free rfl, fun K hK => ?_⟩
              clear hs hb hx
              go_simp
              exact hK _ _ rfl (Ext.refl _)
            · intro fa fw hx hs hb
              obtain ⟨_, s43, rfl⟩ := hs 1 43 (by kernel_rfl) (by kernel_rfl)
              refine .inl ⟨wanted_free rfl, fun K hK => ?_⟩
              clear hs hb hx
              go_simp
              exact hK _ _ rfl (Ext.refl _)
            · intro fa fw hx hs hb
              obtain ⟨_, s44, rfl⟩ := hs 2 44 (by kernel_rfl) (by kernel_rfl)
              refine .inl ⟨wanted_free rfl, fun K hK => ?_⟩
              clear hs hb hx
              go_simp
              exact hK _ _ rfl (Ext.refl _)
            · intro fa fw hx hs hb
              obtain ⟨_, s45, rfl⟩ := hs 3 45 (by kernel_rfl) (by kernel_rfl)
              have c0 := hx.keeps _ _ M5.out
              refine .inl ⟨wanted_free rfl, fun K hK => ?_⟩
              clear hs hb hx
              go_simp
              exact hK _ _ rfl (Ext.refl _)
            · intro fa fw hx hs hb
              have s3 : fa.tmps[(3 : Nat)]? = some (.pointer (some ⟨w.heap.size, 0, none⟩)) := (hb 3 (by kernel_rfl)).trans (by rfl)
              have c0 := hx.keeps _ _ P0.out
              have c1 := hx.keeps _ _ P1.out
              refine .inl ⟨wanted_free rfl, fun K hK => ?_⟩
              clear hs hb hx
              go_simp
              exact hK _ _ rfl (Ext.refl _)
            · intro fa fw hx hs hb
              obtain ⟨_, s47, rfl⟩ := hs 5 47 (by kernel_rfl) (by kernel_rfl)
              refine .inl ⟨wanted_free rfl, fun K hK => ?_⟩
              clear hs hb
              go_simp
              exact hK _ _ ⟨fw.heap.size, rfl, Box.new fw _ _⟩ ((Ext.refl _).alloc _)
          case rest =>
            intro w5 hxw5
            rintro _ rfl
            rintro _ rfl
            rintro _ rfl
            rintro _ rfl
            rintro _ rfl
            rintro _ rfl
            rintro _ ⟨b48, rfl, k48⟩
            simp only [putAll, List.take, Act.put, List.setIfInBounds_toArray, List.set_cons_zero, List.set_cons_succ]
            obtain ⟨inf, hti, htz, hts1, hts2⟩ := info_parts tab_place
            have hr5 := HRQ.out.ext hxw5
            have hb5 := HBQ.out.ext hxw5
            have hm5 := HMQ.out.ext hxw5
            have hlt5 : base ≤ w5.heap.size := by have := hb5.lt; have := HWKS.out.hge; omega
            refine wpAny_ready (rs := [7]) (by kernel_rfl) (by simp) (AllReady.cons rfl (fun KK hKK => ?_) AllReady.nil)
            refine step_append_lies _ rfl (.tmp 46) (.tmp 48) 102 rfl base 142 inf _ 2 48 Try.underlying102 hti htz hts1 hts2 rfl (by omega) (.slice pA pn pc) pn (placeCs vs) rfl (by have := hr5.row; rw [← HPN.out] at this; exact this) ⟨b48, 0, none⟩ 1 1 [.slice A k c, vw] rfl rfl (fun j u hu => by rw [add_zero, k48.cell]; exact hu) (by
              obtain ⟨_, _, ev, -⟩ := own_slice H2.out
              intro u hu
              simp only [List.mem_cons, List.not_mem_nil, or_false] at hu
              rcases hu with rfl | rfl
              · rfl
              · rw [ev]; rfl) (by omega) (by unfold maxLen; omega) (by omega) hlt5 _ rfl ?_
            intro g6 cap6 w6 hown6 hgr6 hat6 hlt6
            refine hKK _ _ ?_
            clear hKK KK
            have hr6 := hr5.push (w' := w6) (v := (.slice A k c, vw)) (p := (r, way)) (by decide) (by rw [HRL.out]; exact own_ext H1Q.out hxw5) (own_ext H2Q.out hxw5) (by rw [← HPN.out]; exact hown6) hgr6
            have hrow : (Value.slice pA pn pc).ownBlock ≠ some b := hb5.apart hr5.row (by decide)
            have hb6 := hb5.kept hgr6 hrow
            have hm6 := hm5.kept hgr6 (hm5.ne_row hr5.row)
            have hnm : b ≠ mb := hm6.ne_box hb6
            have f6 := hb6.free
            have HB6 := Lib.hid hb6; have HR6 := Lib.hid hr6; have HM6 := Lib.hid hm6; have HNM := Lib.hid hnm; have HG6 := Lib.hid hgr6; have HAT := Lib.hid hat6; have X5 := Lib.hid hxw5
            have HRB := Lib.hid (fun q hq => (hr5.row.lt q hq).1); have HL6 := Lib.hid hlt6; have HL5 := Lib.hid hlt5
            have m5 := (hb6.cell 5).trans rfl
            simp only [List.getElem?_cons_zero, List.getElem?_cons_succ] at m5
            clear hb6 hr6 hm6 hb5 hr5 hm5 hrow hown6 hgr6 k48 hnm hat6 hlt6 hlt5 hxw5 hti htz hts1 hts2
            refine wpAny_ready (rs := [8]) (by kernel_rfl) (by simp) (AllReady.cons rfl (fun KK hKK => ?_) AllReady.nil)
            go_simp
            refine hKK _ _ ?_
            clear hKK KK
            refine wpAny_ready (rs := [9]) (by kernel_rfl) (by simp) (AllReady.cons rfl (fun KK hKK => ?_) AllReady.nil)
            go_simp
            refine hKK _ _ ?_
            clear hKK KK
            refine wpAny_ready (rs := [10]) (by kernel_rfl) (by simp) (AllReady.cons rfl (fun KK hKK => ?_) AllReady.nil)
            go_simp
            refine hKK _ _ ?_
            clear hKK KK
            refine wpAny_done (by kernel_rfl) ?_ _
            go_wp2
            go_ret
            obtain ⟨hl1, hl2, hl3⟩ := HLT.out
            have hge := HWKS.out.hge
            have hwq : Below base w wq := Below.grown (Below.mono XB.out hl1) HGQ.out (Nat.le_trans hl1 XB.out.size) (fun q hq => by injection hq with hq; omega)
            have hbl : Below base w w6 := Below.grown (hwq.trans (Below.mono X5.out (Nat.le_trans (Nat.le_trans hl1 XB.out.size) HGQ.out.size))) HG6.out HL5.out HRB.out
            refine ⟨hbl.setCell (p := ⟨b, 5, none⟩) hge.1 _, .slice (some ⟨g6, 0, none⟩) (pn + 1) cap6, vs ++ [(.slice A k c, vw)], ?_, ?_⟩
            · intro q hq q1 q2 q3
              rw [← HPN.out] at q3
              have hq1 := Nat.lt_of_lt_of_le hq XB.out.size
              have hq2 := Nat.lt_of_lt_of_le hq1 HGQ.out.size
              have hq3 := Nat.lt_of_lt_of_le hq2 X5.out.size
              refine ⟨?_, ?_⟩
              · rw [Below.heap_setCell _ _ _ _ (show q ≠ b from q1), HG6.out.block q hq3 q3, X5.out.block q hq2, HGQ.out.block q hq1 (by simpa using q2), XB.out.block q hq]
              · rcases HAT.out with e | e
                · intro e2
                  rw [e] at q3
                  exact q3 (by simpa [Value.ownBlock] using e2)
                · intro e2
                  simp only [Value.ownBlock, Option.some.injEq] at e2
                  omega
            · rw [hA.out]
              refine ⟨rfl, HB6.out.set 5 _, ⟨_, ?_, HSEEN.out.add (p := (r, way)) H01.out⟩, HR6.out.set HB6.out (by decide) (by decide) 5 _, hge⟩
              have := HM6.out.set HNM.out 5 (.slice (some ⟨g6, 0, none⟩) (pn + 1) cap6)
              rw [List.length_append, ← HPN.out]
              exact this
          case restZ =>
            intro w5 hxw5
            rintro _ rfl
            rintro _ rfl
            rintro _ rfl
            rintro _ rfl
            rintro _ rfl
            rintro _ ⟨b48, rfl, k48⟩
            simp only [putAll, List.take, Act.put, List.setIfInBounds_toArray, List.set_cons_zero, List.set_cons_succ]
            obtain ⟨inf, hti, htz, hts1, hts2⟩ := info_parts tab_place
            have hr5 := HRQ.out.ext hxw5
            have hb5 := HBQ.out.ext hxw5
            have hm5 := HMQ.out.ext hxw5
            have hlt5 : base ≤ w5.heap.size := by have := hb5.lt; have := HWKS.out.hge; omega
            refine wpAny_ready (rs := [0, 7]) (by kernel_rfl) (by simp) (AllReady.cons rfl (fun KK hKK => ?_) (AllReady.cons rfl (fun KK hKK => ?_) AllReady.nil))
            · go_simp
              refine hKK _ _ ?_
              clear hKK KK
              refine wpAny_ready (rs := [7]) (by kernel_rfl) (by simp) (AllReady.cons rfl (fun KK hKK => ?_) AllReady.nil)
              refine step_append_lies _ rfl (.tmp 46) (.tmp 48) 102 rfl base 142 inf _ 2 48 Try.underlying102 hti htz hts1 hts2 rfl (by omega) (.slice pA pn pc) pn (placeCs vs) rfl (by have := hr5.row; rw [← HPN.out] at this; exact this) ⟨b48, 0, none⟩ 1 1 [.slice A k c, vw] rfl rfl (fun j u hu => by rw [add_zero, k48.cell]; exact hu) (by
                obtain ⟨_, _, ev, -⟩ := own_slice H2.out
                intro u hu
                simp only [List.mem_cons, List.not_mem_nil, or_false] at hu
                rcases hu with rfl | rfl
                · rfl
                · rw [ev]; rfl) (by omega) (by unfold maxLen; omega) (by omega) hlt5 _ rfl ?_
              intro g6 cap6 w6 hown6 hgr6 hat6 hlt6
              refine hKK _ _ ?_
              clear hKK KK
              have hr6 := hr5.push (w' := w6) (v := (.slice A k c, vw)) (p := (r, way)) (by decide) (by rw [HRL.out]; exact own_ext H1Q.out hxw5) (own_ext H2Q.out hxw5) (by rw [← HPN.out]; exact hown6) hgr6
              have hrow : (Value.slice pA pn pc).ownBlock ≠ some b := hb5.apart hr5.row (by decide)
              have hb6 := hb5.kept hgr6 hrow
              have hm6 := hm5.kept hgr6 (hm5.ne_row hr5.row)
              have hnm : b ≠ mb := hm6.ne_box hb6
              have f6 := hb6.free
              have HB6 := Lib.hid hb6; have HR6 := Lib.hid hr6; have HM6 := Lib.hid hm6; have HNM := Lib.hid hnm; have HG6 := Lib.hid hgr6; have HAT := Lib.hid hat6; have X5 := Lib.hid hxw5
              have HRB := Lib.hid (fun q hq => (hr5.row.lt q hq).1); have HL6 := Lib.hid hlt6; have HL5 := Lib.hid hlt5
              have m5 := (hb6.cell 5).trans rfl
              simp only [List.getElem?_cons_zero, List.getElem?_cons_succ] at m5
              clear hb6 hr6 hm6 hb5 hr5 hm5 hrow hown6 hgr6 k48 hnm hat6 hlt6 hlt5 hxw5 hti htz hts1 hts2
              refine wpAny_ready (rs := [8]) (by kernel_rfl) (by simp) (AllReady.cons rfl (fun KK hKK => ?_) AllReady.nil)
              go_simp
              refine hKK _ _ ?_
              clear hKK KK
              refine wpAny_ready (rs := [9]) (by kernel_rfl) (by simp) (AllReady.cons rfl (fun KK hKK => ?_) AllReady.nil)
              go_simp
              refine hKK _ _ ?_
              clear hKK KK
              refine wpAny_ready (rs := [10]) (by kernel_rfl) (by simp) (AllReady.cons rfl (fun KK hKK => ?_) AllReady.nil)
              go_simp
              refine hKK _ _ ?_
              clear hKK KK
              refine wpAny_done (by kernel_rfl) ?_ _
              go_wp2
              go_ret
              obtain ⟨hl1, hl2, hl3⟩ := HLT.out
              have hge := HWKS.out.hge
              have hwq : Below base w wq := Below.grown (Below.mono XB.out hl1) HGQ.out (Nat.le_trans hl1 XB.out.size) (fun q hq => by injection hq with hq; omega)
              have hbl : Below base w w6 := Below.grown (hwq.trans (Below.mono X5.out (Nat.le_trans (Nat.le_trans hl1 XB.out.size) HGQ.out.size))) HG6.out HL5.out HRB.out
              refine ⟨hbl.setCell (p := ⟨b, 5, none⟩) hge.1 _, .slice (some ⟨g6, 0, none⟩) (pn + 1) cap6, vs ++ [(.slice A k c, vw)], ?_, ?_⟩
              · intro q hq q1 q2 q3
                rw [← HPN.out] at q3
                have hq1 := Nat.lt_of_lt_of_le hq XB.out.size
                have hq2 := Nat.lt_of_lt_of_le hq1 HGQ.out.size
                have hq3 := Nat.lt_of_lt_of_le hq2 X5.out.size
                refine ⟨?_, ?_⟩
                · rw [Below.heap_setCell _ _ _ _ (show q ≠ b from q1), HG6.out.block q hq3 q3, X5.out.block q hq2, HGQ.out.block q hq1 (by simpa using q2), XB.out.block q hq]
                · rcases HAT.out with e | e
                  · intro e2
                    rw [e] at q3
                    exact q3 (by simpa [Value.ownBlock] using e2)
                  · intro e2
                    simp only [Value.ownBlock, Option.some.injEq] at e2
                    omega
              · rw [hA.out]
                refine ⟨rfl, HB6.out.set 5 _, ⟨_, ?_, HSEEN.out.add (p := (r, way)) H01.out⟩, HR6.out.set HB6.out (by decide) (by decide) 5 _, hge⟩
                have := HM6.out.set HNM.out 5 (.slice (some ⟨g6, 0, none⟩) (pn + 1) cap6)
                rw [List.length_append, ← HPN.out]
                exact this
            · refine step_append_lies _ rfl (.tmp 46) (.tmp 48) 102 rfl base 142 inf _ 2 48 Try.underlying102 hti htz hts1 hts2 rfl (by omega) (.slice pA pn pc) pn (placeCs vs) rfl (by have := hr5.row; rw [← HPN.out] at this; exact this) ⟨b48, 0, none⟩ 1 1 [.slice A k c, vw] rfl rfl (fun j u hu => by rw [add_zero, k48.cell]; exact hu) (by
                obtain ⟨_, _, ev, -⟩ := own_slice H2.out
                intro u hu
                simp only [List.mem_cons, List.not_mem_nil, or_false] at hu
                rcases hu with rfl | rfl
                · rfl
                · rw [ev]; rfl) (by omega) (by unfold maxLen; omega) (by omega) hlt5 _ rfl ?_
              intro g6 cap6 w6 hown6 hgr6 hat6 hlt6
              refine hKK _ _ ?_
              clear hKK KK
              have hr6 := hr5.push (w' := w6) (v := (.slice A k c, vw)) (p := (r, way)) (by decide) (by rw [HRL.out]; exact own_ext H1Q.out hxw5) (own_ext H2Q.out hxw5) (by rw [← HPN.out]; exact hown6) hgr6
              have hrow : (Value.slice pA pn pc).ownBlock ≠ some b := hb5.apart hr5.row (by decide)
              have hb6 := hb5.kept hgr6 hrow
              have hm6 := hm5.kept hgr6 (hm5.ne_row hr5.row)
              have hnm : b ≠ mb := hm6.ne_box hb6
              have f6 := hb6.free
              have HB6 := Lib.hid hb6; have HR6 := Lib.hid hr6; have HM6 := Lib.hid hm6; have HNM := Lib.hid hnm; have HG6 := Lib.hid hgr6; have HAT := Lib.hid hat6; have X5 := Lib.hid hxw5
              have HRB := Lib.hid (fun q hq => (hr5.row.lt q hq).1); have HL6 := Lib.hid hlt6; have HL5 := Lib.hid hlt5
              have m5 := (hb6.cell 5).trans rfl
              simp only [List.getElem?_cons_zero, List.getElem?_cons_succ] at m5
              clear hb6 hr6 hm6 hb5 hr5 hm5 hrow hown6 hgr6 k48 hnm hat6 hlt6 hlt5 hxw5 hti htz hts1 hts2
              refine wpAny_ready (rs := [0]) (by kernel_rfl) (by simp) (AllReady.cons rfl (fun KK hKK => ?_) AllReady.nil)
              go_simp
              refine hKK _ _ ?_
              clear hKK KK
              refine wpAny_ready (rs := [8]) (by kernel_rfl) (by simp) (AllReady.cons rfl (fun KK hKK => ?_) AllReady.nil)
              go_simp
              refine hKK _ _ ?_
              clear hKK KK
              refine wpAny_ready (rs := [9]) (by kernel_rfl) (by simp) (AllReady.cons rfl (fun KK hKK => ?_) AllReady.nil)
              go_simp
              refine hKK _ _ ?_
              clear hKK KK
              refine wpAny_ready (rs := [10]) (by kernel_rfl) (by simp) (AllReady.cons rfl (fun KK hKK => ?_) AllReady.nil)
              go_simp
              refine hKK _ _ ?_
              clear hKK KK
              refine wpAny_done (by kernel_rfl) ?_ _
              go_wp2
              go_ret
              obtain ⟨hl1, hl2, hl3⟩ := HLT.out
              have hge := HWKS.out.hge
              have hwq : Below base w wq := Below.grown (Below.mono XB.out hl1) HGQ.out (Nat.le_trans hl1 XB.out.size) (fun q hq => by injection hq with hq; omega)
              have hbl : Below base w w6 := Below.grown (hwq.trans (Below.mono X5.out (Nat.le_trans (Nat.le_trans hl1 XB.out.size) HGQ.out.size))) HG6.out HL5.out HRB.out
              refine ⟨hbl.setCell (p := ⟨b, 5, none⟩) hge.1 _, .slice (some ⟨g6, 0, none⟩) (pn + 1) cap6, vs ++ [(.slice A k c, vw)], ?_, ?_⟩
              · intro q hq q1 q2 q3
                rw [← HPN.out] at q3
                have hq1 := Nat.lt_of_lt_of_le hq XB.out.size
                have hq2 := Nat.lt_of_lt_of_le hq1 HGQ.out.size
                have hq3 := Nat.lt_of_lt_of_le hq2 X5.out.size
                refine ⟨?_, ?_⟩
                · rw [Below.heap_setCell _ _ _ _ (show q ≠ b from q1), HG6.out.block q hq3 q3, X5.out.block q hq2, HGQ.out.block q hq1 (by simpa using q2), XB.out.block q hq]
                · rcases HAT.out with e | e
                  · intro e2
                    rw [e] at q3
                    exact q3 (by simpa [Value.ownBlock] using e2)
                  · intro e2
                    simp only [Value.ownBlock, Option.some.injEq] at e2
                    omega
              · rw [hA.out]
                refine ⟨rfl, HB6.out.set 5 _, ⟨_, ?_, HSEEN.out.add (p := (r, way)) H01.out⟩, HR6.out.set HB6.out (by decide) (by decide) 5 _, hge⟩
                have := HM6.out.set HNM.out 5 (.slice (some ⟨g6, 0, none⟩) (pn + 1) cap6)
                rw [List.length_append, ← HPN.out]
                exact this
end Go.Proofs.Ytlafiddfplhafaa
