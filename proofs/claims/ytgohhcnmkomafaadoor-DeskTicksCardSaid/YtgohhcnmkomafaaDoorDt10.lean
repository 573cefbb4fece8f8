/- Levels, in plain Lean: the order by counts of what lacks, and the order by flags, are the same; what is told along an order is what is settled. No program in sight. -/
import Derived.Test.YtgohhcnmkomafaaDoorDt09
import Derived.Test.YtgohhcnmkomafaaDoorDt03
import Derived.Test.YtgohhcnmkomafaaDoorDt01
import Derived.Test.YtgohhcnmkomafaaDoorDt02
import Derived.Test.YtgohhcnmkomafaaDoorDt04
import Derived.Test.YtgohhcnmkomafaaDoorDt06
import Derived.Deep.DeepCutAuto
import Derived.Deep.RegionWith
import Derived.Test.YtgohhcnmkomafaaDoorDt05
namespace Go.Proofs.YtgohhcnmkomafaaDoor
set_option linter.unusedVariables false
set_option linter.unusedSimpArgs false
set_option linter.unusedVariables false
set_option linter.unusedSimpArgs false
/-- All of args are done. -/
def argsDone (o : List Bool) (g : GateM) : Bool := g.args.all (onI o)
/-! counts of what lacks -/
/-! along an order -/
/-- An order of what is left. -/
def OrdM (gs : List GateM) : List Bool → List Int → Prop
  | _, [] => True
  | o, k :: l => 0 ≤ k ∧ (∃ g, gs[k.toNat]? = some g ∧ onI o k = false ∧ argsDone o g = true) ∧ OrdM gs (o.set k.toNat true) l
theorem cnt_set {o : List Bool} : ∀ {k : Nat}, o[k]? = some false → cnt (o.set k true) = cnt o + 1 := by
  induction o with
  | nil => intro k h; simp at h
  | cons x o ih =>
    intro k h
    cases k with
    | zero => simp at h; subst h; simp [cnt]
    | succ k => have := ih (k := k) (by simpa using h); simp only [cnt, List.set_cons_succ, List.countP_cons] at *; omega
theorem off_some {o : List Bool} {k : Int} (h : onI o k = false) (hl : k.toNat < o.length) : o[k.toNat]? = some false := by
  unfold onI at h; rw [List.getElem?_eq_getElem hl] at h ⊢; simpa using h
/-- Where an order ends, all are done. -/
theorem OrdM.all {gs : List GateM} : ∀ {l : List Int} {o : List Bool}, OrdM gs o l → o.length = gs.length → ∃ o' : List Bool, o' = l.foldl (fun o k => o.set k.toNat true) o ∧ o'.length = gs.length ∧ cnt o' = cnt o + l.length
  | [], o, _, ho => ⟨o, rfl, ho, rfl⟩
  | k :: l, o, h, ho => by
    obtain ⟨h0, ⟨g, hg, hon, _⟩, h3⟩ := h
    have hk : k.toNat < o.length := by have := (List.getElem?_eq_some_iff.1 hg).1; omega
    obtain ⟨o', h1, h2, h4⟩ := OrdM.all h3 (by simp [ho])
    exact ⟨o', by simpa using h1, h2, by rw [h4, cnt_set (off_some hon hk)]; simp; omega⟩
/-! what is told along an order -/
end Go.Proofs.YtgohhcnmkomafaaDoor
/- Instants of nets, in plain Lean. No Go in sight. -/
namespace Go.Proofs.YtgohhcnmkomafaaDoor
set_option linter.unusedVariables false
set_option linter.unusedSimpArgs false
def badTime (ins : Nat) (x : Int) : Bool := decide (x < 0) || decide (2 ^ ins ≤ x)
def timesM (l : List Int) (ins : Nat) : Int := if 60 < l.length then 2 else if l.any (badTime ins) then 3 else 0
/-! right nets -/
structure NetOK (N : NetM) : Prop where
  ins0 : 0 ≤ N.ins
  ins3 : N.ins ≤ 3
  gl : N.gates.length ≤ 200
  rl : N.regs.length ≤ 20
  ol : N.outs.length ≤ 3
  al : ∀ g ∈ N.gates, g.args.length ≤ 16
  named : ∀ k ∈ namedM N, 0 ≤ k ∧ k < N.gates.length
  kinds : ∀ g ∈ N.gates, 0 ≤ g.kind ∧ g.kind ≤ 6
  form : ∀ g ∈ N.gates, formM N g = true
theorem NetOK.check {N : NetM} (h : NetOK N) : checkN N = 0 := by
  have h1 : tooMany N = false := by
    have := h.ins3; have := h.gl; have := h.rl; have := h.ol
    simp only [tooMany, Bool.or_eq_false_iff, decide_eq_false_iff_not]; omega
  have h2 : N.gates.any manyA = false := List.any_eq_false.2 fun g hg => by have := h.al g hg; simp [manyA]; omega
  have h3 : ¬ N.ins < 0 := by have := h.ins0; omega
  have h4 : (namedM N).any (badPlace N.gates.length) = false := List.any_eq_false.2 fun k hk => by have := h.named k hk; simp [badPlace]; omega
  have h5 : N.gates.any badGK = false := List.any_eq_false.2 fun g hg => by have := h.kinds g hg; simp [badGK]; omega
  have h6 : N.gates.all (formM N) = true := List.all_eq_true.2 h.form
  simp [checkN, h1, h2, h3, h4, h5, h6]
theorem NetOK.args {N : NetM} (h : NetOK N) : okArgs N.gates := fun g hg a ha => h.named a (by
  unfold namedM; rw [List.mem_append]; right; exact List.mem_flatMap.2 ⟨g, hg, ha⟩)
theorem NetOK.outs {N : NetM} (h : NetOK N) : inR N.gates.length N.outs := fun a ha => h.named a (by simp [namedM, ha])
end Go.Proofs.YtgohhcnmkomafaaDoor
/- The bounds of instants, by the program. -/
namespace Go.Proofs.YtgohhcnmkomafaaDoor
set_option linter.unusedVariables false
set_option linter.unusedSimpArgs false
open Go.RowKit
/-! the bounds of the instants -/
set_option maxRecDepth 100000 in
theorem times1_any (b : Nat) (n : Nat) (x : Int) (w : World) (hc : w.cell? ⟨b, 0, none⟩ = some (I n)) (hn : n ≤ 3) :
    Calls Tryd.prog 31 #[I x, .pointer (some ⟨b, 0, none⟩)] w fun e w' => e = .returned (.bool (badTime n x)) ∧ w = w' := by
  have h : n = 0 ∨ n = 1 ∨ n = 2 ∨ n = 3 := by omega
  rcases h with rfl | rfl | rfl | rfl
  all_goals
    go_enter Tryd.func31, Tryd.ntmps31
    go_wp2
    all_goals go_ret
    all_goals exact ⟨ret_bool (by simp [badTime]; try omega), rfl⟩
set_option maxRecDepth 100000 in
theorem enter_times1 : ∀ args W, (callFunc 31 args).run Tryd.prog W = .ok (.enter 31 args) W := by
  intro args W
  go_simp
theorem asks_times1 (b : Nat) (n : Nat) (w : World) (hc : w.cell? ⟨b, 0, none⟩ = some (I n)) (hn : n ≤ 3) : Asks Tryd.prog 31 #[.pointer (some ⟨b, 0, none⟩)] w (badTime n) := ⟨enter_times1, fun x => times1_any b n x w hc hn⟩
set_option maxHeartbeats 1000000 in
theorem times_any (A : Option Addr) (n c : Nat) (l : List Int) (k : Nat) (w : World) (h : Sl w A n (l.map I)) (hn : n ≤ maxLen) (hk : k ≤ 3) :
    Calls Tryd.prog 12 #[.slice A n c, I k] w fun e w' => e = .returned (I (timesM l k)) ∧ Ext w w' := by
  have hln := h.len
  generalize hM : timesM l k = M
  unfold timesM at hM
  rw [hln] at hM
  obtain ⟨W, hW⟩ : ∃ W, W = w.alloc (.cells #[I k] 3) := ⟨_, rfl⟩
  have hxW : Ext w W := by rw [hW]; exact (Ext.refl _).alloc _
  have hc : W.cell? ⟨w.heap.size, 0, none⟩ = some (I k) := by rw [hW, World.cell?_alloc_new]; rfl
  have HS := Lib.hid (h.keep hxW.keeps); have HW := Lib.hid hW; have HC := Lib.hid hc
  have HN := Lib.hid hn
  unfold maxLen at hn
  clear h hW hc hln
  by_cases h1 : 60 < n
  · rw [if_pos h1] at hM
    have HM := Lib.hid hM; clear hM
    go_enter Tryd.func12, Tryd.ntmps12
    go_wp2
    go_ret
    rw [← HW.out]
    exact ⟨ret_int HM.out, hxW⟩
  · rw [if_neg h1] at hM
    cases hb : l.any (badTime k)
    all_goals
      rw [hb] at hM
      have HM := Lib.hid hM; have HB := Lib.hid hb; clear hM hb
      go_enter Tryd.func12, Tryd.ntmps12
      go_wp2_with fail
      rw [← HW.out]
      refine (containsFunc_any A n c l _ _ (badTime k) W HS.out HN.out (asks_times1 w.heap.size k W HC.out hk)).mono ?_; rintro e w' ⟨rfl, rfl⟩; rw [HB.out]
      go_wp2
      go_ret
      exact ⟨ret_int (by rw [← HM.out]; rfl), hxW⟩
end Go.Proofs.YtgohhcnmkomafaaDoor
/- A row of rows that a call makes, one row behind the other; SameRows. -/
namespace Go.Proofs.YtgohhcnmkomafaaDoor
set_option linter.unusedVariables false
set_option linter.unusedSimpArgs false
open Go.RowKit
theorem own_types {w : World} {base base' : Nat} {e e' : TypeId} {size size' n m : Nat} {v v' : Value} {xs ys : List Value} (h : w.ownsRow base e size v n xs) (h' : w.ownsRow base' e' size' v' m ys) (hne : e ≠ e') : v.ownBlock = none ∨ v.ownBlock ≠ v'.ownBlock := by
  rcases h.2 with ⟨rfl, _⟩ | ⟨g, cap, cur, rfl, _, hg, _⟩
  · exact .inl rfl
  · right
    intro e1
    rcases h'.2 with ⟨rfl, _⟩ | ⟨g', cap', cur', rfl, _, hg', _⟩
    · cases e1
    · have e2 : g = g' := Option.some.inj e1
      subst e2
      rw [hg] at hg'
      injection hg' with hg'
      injection hg' with _ h3 _
      exact hne h3
/-- A row of rows of numbers, all of the call's own. -/
structure OwnRows (E T : TypeId) (w : World) (base : Nat) (s : Value) (rows : List (List Int)) (vs : List Value) : Prop where
  row : w.ownsRow base E 1 s rows.length vs
  own : ∀ (k : Nat) v r, vs[k]? = some v → rows[k]? = some r → w.ownsRow base T 1 v r.length (r.map I)
section
variable {E T : TypeId} {w w' : World} {base : Nat} {s : Value} {rows : List (List Int)} {vs : List Value}
theorem OwnRows.vl (h : OwnRows E T w base s rows vs) : vs.length = rows.length := by have := h.row.1; omega
theorem OwnRows.nil (E T : TypeId) (w : World) (base : Nat) : OwnRows E T w base (.slice none 0 0) [] [] := ⟨World.ownsRow_nil _ _ _ _, fun k v r h => by simp at h⟩
theorem OwnRows.ext (h : OwnRows E T w base s rows vs) (hx : Ext w w') : OwnRows E T w' base s rows vs := ⟨own_ext h.row hx, fun k v r hv hr => own_ext (h.own k v r hv hr) hx⟩
theorem OwnRows.push (h : OwnRows E T w base s rows vs) (hne : T ≠ E) {s' v : Value} {r : List Int} (hv : w.ownsRow base T 1 v r.length (r.map I)) (hown : w'.ownsRow base E 1 s' (rows.length + 1) (vs ++ [v])) (hg : w.grownBy w' s.ownBlock) :
    OwnRows E T w' base s' (rows ++ [r]) (vs ++ [v]) := by
  refine ⟨by simpa using hown, fun k y z hy hz => ?_⟩
  have hvl := h.vl
  by_cases hk : k < vs.length
  · rw [List.getElem?_append_left hk] at hy
    rw [List.getElem?_append_left (by omega)] at hz
    have h1 := h.own k y z hy hz
    exact h1.kept hg (own_types h1 h.row hne)
  · rw [List.getElem?_append_right (by omega)] at hy hz
    rw [← hvl] at hz
    cases hq : k - vs.length with
    | zero =>
      rw [hq] at hy hz
      simp at hy hz
      subst hy; subst hz
      exact hv.kept hg (own_types hv h.row hne)
    | succ q => rw [hq] at hy; simp at hy
end
/-- A slice of slices of numbers that is read. -/
def SlRows (w : World) (A : Option Addr) (n : Nat) (rows : List (List Int)) : Prop :=
  rows.length = n ∧ ∀ (k : Nat) r, rows[k]? = some r → ∃ b off A' c, A = some ⟨b, off, none⟩ ∧ w.cell? ⟨b, off + k, none⟩ = some (.slice A' r.length c) ∧ Sl w A' r.length (r.map I) ∧ r.length ≤ c ∧ c ≤ maxLen
theorem SlRows.keep {w w' : World} {A : Option Addr} {n : Nat} {rows : List (List Int)} (h : SlRows w A n rows) (hk : Keeps w w') : SlRows w' A n rows :=
  ⟨h.1, fun k r hr => let ⟨b, off, A', c, e, hc, hs, h1, h2⟩ := h.2 k r hr; ⟨b, off, A', c, e, hk _ _ hc, hs.keep hk, h1, h2⟩⟩
theorem SlRows.nil (w : World) (A : Option Addr) : SlRows w A 0 [] := ⟨rfl, fun k r h => by simp at h⟩
theorem OwnRows.slice {E T : TypeId} {w : World} {base : Nat} {s : Value} {rows : List (List Int)} {vs : List Value} (h : OwnRows E T w base s rows vs) : ∃ A c, s = .slice A rows.length c ∧ rows.length ≤ c ∧ c ≤ maxLen ∧ SlRows w A rows.length rows := by
  obtain ⟨A, c, rfl, h1, h2, hc⟩ := own_slice h.row
  refine ⟨A, c, rfl, h1, h2, rfl, fun k r hr => ?_⟩
  have hk : k < vs.length := by have := h.vl; have := (List.getElem?_eq_some_iff.1 hr).1; omega
  obtain ⟨b, off, e, hcell⟩ := hc k vs[k] (List.getElem?_eq_getElem hk)
  obtain ⟨A', c', e', g1, g2, hs⟩ := own_sl (h.own k vs[k] r (List.getElem?_eq_getElem hk) hr)
  exact ⟨b, off, A', c', e, by rw [hcell, e'], hs, g1, g2⟩
end Go.Proofs.YtgohhcnmkomafaaDoor
/- A run of a program, in plain Lean, at the desk. -/
namespace Go.Proofs.YtgohhcnmkomafaaDoor
set_option linter.unusedVariables false
set_option linter.unusedSimpArgs false
def bI (b : Bool) : Int := if b then 1 else 0
/-- The program, instant by instant: what it puts out. -/
def runsT (t : Tr) : RestM → List Int → List (List Int)
  | _, [] => []
  | r, x :: l => (turnR t r x).outs.map bI :: runsT t (turnR t r x) l
end Go.Proofs.YtgohhcnmkomafaaDoor
/- forge.Run, at the desk's translation. -/
namespace Go.Proofs.YtgohhcnmkomafaaDoor
set_option linter.unusedVariables false
set_option linter.unusedSimpArgs false
open Go.RowKit
theorem tab_ints : (Tryd.prog.info? 23).map (fun i => (i.zero, i.size, i.bytes)) = some (some (.slice none 0 0), 1, 24) := by kernel_rfl
theorem take_snoc {α : Type} {l : List α} {k : Nat} {x : α} (h : l[k]? = some x) : l.take (k + 1) = l.take k ++ [x] := by rw [List.take_add_one, h]; rfl
end Go.Proofs.YtgohhcnmkomafaaDoor
namespace Go.Proofs.YtgohhcnmkomafaaDoor
open Go.RowKit
/-- The error that Run hands back. -/
def runErr (p : List PNode) (l : List Int) : Int := if checkP p = 0 then timesM l 3 else checkP p
set_option maxHeartbeats 4000000 in
set_option maxRecDepth 100000 in
theorem run_bad (A : Option Addr) (n c : Nat) (p : List PNode) (B : Option Addr) (m d : Nat) (l : List Int) (w : World) (h : SlN w A n p) (hn : n ≤ maxLen) (hl : Sl w B m (l.map I)) (hm : m ≤ maxLen) (hr : runErr p l ≠ 0) :
    Calls Tryd.prog 5 #[.slice A n c, .slice B m d] w fun e w' => e = .returned (Pr (.slice none 0 0) (I (runErr p l))) ∧ Ext w w' := by
  obtain ⟨x0, hx0⟩ : ∃ x0, x0 = checkP p := ⟨_, rfl⟩
  obtain ⟨y0, hy0⟩ : ∃ y0, y0 = timesM l 3 := ⟨_, rfl⟩
  unfold runErr at hr ⊢
  rw [← hx0, ← hy0] at hr
  rw [← hx0, ← hy0]
  have H := Lib.hid h; have HQ := Lib.hid hx0; have HN := Lib.hid hn; have HL := Lib.hid hl; have HM := Lib.hid hm; have HY := Lib.hid hy0
  clear h hx0 hn hl hm hy0
  by_cases h0 : x0 = 0
  · rw [if_pos h0] at hr
    rw [if_pos h0]
    rw [h0] at HQ
    clear h0
    go_enter Tryd.func5, Tryd.ntmps5
    go_wp2_with fail
    refine (progCheck_any _ n c p w H.out HN.out).mono ?_; rintro e w1 ⟨rfl, x1⟩; rw [← HQ.out]
    have X1 := Lib.hid x1; clear x1
    go_wp2_with fail
    refine (times_any B m d l 3 w1 (HL.out.keep X1.out.keeps) HM.out (by omega)).mono ?_; rintro e w2 ⟨rfl, x2⟩; rw [← HY.out]
    have X2 := Lib.hid (X1.out.trans x2); clear x2
    go_wp2
    exact bodyPost_ret (v := Pr (.slice none 0 0) (I y0)) (by simp [results, Tryd.results5, go_sem]) rfl ⟨rfl, X2.out⟩
  · rw [if_neg h0] at hr
    rw [if_neg h0]
    go_enter Tryd.func5, Tryd.ntmps5
    go_wp2_with fail
    refine (progCheck_any _ n c p w H.out HN.out).mono ?_; rintro e w1 ⟨rfl, x1⟩; rw [← HQ.out]
    have X1 := Lib.hid x1; clear x1
    go_wp2
    exact bodyPost_ret (v := Pr (.slice none 0 0) (I x0)) (by simp [results, Tryd.results5, go_sem]) rfl ⟨rfl, X1.out⟩
end Go.Proofs.YtgohhcnmkomafaaDoor
namespace Go.Proofs.YtgohhcnmkomafaaDoor
open Go.RowKit
theorem timesM_rangeF {l : List Int} {m : Nat} (h : timesM l m = 0) : l.length ≤ 60 ∧ ∀ x ∈ l, 0 ≤ x ∧ x < (2 ^ m : Nat) := by
  unfold timesM at h
  split at h
  · cases h
  rename_i h1
  cases hb : l.any (badTime m) with
  | true => rw [hb] at h; simp at h
  | false =>
    refine ⟨by omega, fun x hx => ?_⟩
    have := List.any_eq_false.1 hb x hx
    simp only [badTime, Bool.or_eq_true, decide_eq_true_eq, not_or] at this
    have hp : ((2 ^ m : Nat) : Int) = (2 : Int) ^ m := by rw [Int.natCast_pow]; rfl
    rw [hp]
    omega
theorem fresh_waits (p : List PNode) (n : Nat) : waitsOK p (freshM n).waits := fun j h => by
  simp only [freshM, List.getElem?_replicate] at h
  split at h <;> simp at h
theorem OwnRows.setB {w : World} {base b : Nat} {sv : Value} {rows : List (List Int)} {vs cs : List Value} (h : OwnRows 23 3 w base sv rows vs) (hb : Box w b 34 cs) (k : Nat) (u : Value) : OwnRows 23 3 (w.setCell ⟨b, k, none⟩ u) base sv rows vs :=
  ⟨own_set h.row (hb.apart h.row (by decide)) k u, fun i v r hv hr => own_set (h.own i v r hv hr) (hb.apart (h.own i v r hv hr) (by decide)) k u⟩
theorem Sl.grown {w w' : World} {row : Option Nat} {b off n : Nat} {cs : List Value} (h : Sl w (some ⟨b, off, none⟩) n cs) (hg : w.grownBy w' row) (hne : row ≠ some b) : Sl w' (some ⟨b, off, none⟩) n cs :=
  ⟨h.1, fun k u hu => by
    obtain ⟨b', off', e, hc⟩ := h.2 k u hu
    injection e with e; injection e with e1 e2
    subst e1; subst e2
    exact ⟨_, _, rfl, (hg.cell_far _ (lt_of_cell hc) (fun e => hne e.symm)).trans hc⟩⟩
theorem RestC.grown {w w' : World} {row : Option Nat} {fr : Bool} {g1 g2 wn wc on oc : Nat} {r : RestM} (h : RestC w fr (some ⟨g1, 0, none⟩) wn wc (some ⟨g2, 0, none⟩) on oc r) (hg : w.grownBy w' row) (h1 : row ≠ some g1) (h2 : row ≠ some g2) :
    RestC w' fr (some ⟨g1, 0, none⟩) wn wc (some ⟨g2, 0, none⟩) on oc r :=
  ⟨h.fresh, h.waits.grown hg h1, h.outs.grown hg h2, h.wl, h.ol⟩
theorem rows_app {t : Tr} {r : RestM} {rows all : List (List Int)} {l : List Int} {k : Nat} {x : Int} (h : rows ++ runsT t r (l.drop k) = all) (hx : l[k]? = some x) : (rows ++ [(turnR t r x).outs.map bI]) ++ runsT t (turnR t r x) (l.drop (k + 1)) = all := by
  rw [← h]
  obtain ⟨hk, rfl⟩ := List.getElem?_eq_some_iff.1 hx
  rw [List.drop_eq_getElem_cons hk, runsT, List.append_assoc]; rfl
set_option maxHeartbeats 8000000 in
set_option maxRecDepth 100000 in
theorem run_good (A : Option Addr) (n c : Nat) (t : Tr) (B : Option Addr) (m d : Nat) (l : List Int) (w : World) (h : SlN w A n t.flat) (ok : t.ok) (hg : ∀ x ∈ t.flat, goodN x) (hs : t.size ≤ 14) (hc : checkP t.flat = 0) (hl : Sl w B m (l.map I)) (hm : m ≤ 64) (hr : timesM l 3 = 0) :
    Calls Tryd.prog 5 #[.slice A n c, .slice B m d] w fun e w' => ∃ v vs, e = .returned (Pr v (I 0)) ∧ OwnRows 23 3 w' w.heap.size v (runsT t (freshM t.size) l) vs ∧ Ext w w' := by
  have hn : n = t.size := by rw [← flat_size, h.1]
  have hn14 : n ≤ 14 := by omega
  have hnm : n ≤ maxLen := Nat.le_trans hn14 (by unfold maxLen; omega)
  have hmm : m ≤ maxLen := Nat.le_trans hm (by unfold maxLen; omega)
  have H := Lib.hid h; have HQ := Lib.hid hc; have HN := Lib.hid hn; have HNM := Lib.hid hnm; have HMM := Lib.hid hmm; have HL := Lib.hid hl; have HY := Lib.hid hr; have HOK := Lib.hid ok; have HG := Lib.hid hg; have HS := Lib.hid hs; have HN14 := Lib.hid hn14; have HM := Lib.hid hm
  clear h hc hn hnm hmm hl hr ok hg hs hn14 hm
  go_enter Tryd.func5, Tryd.ntmps5
  go_wp2_with fail
  refine (progCheck_any _ n c _ w H.out HNM.out).mono ?_; rintro e w1 ⟨rfl, x1⟩; rw [HQ.out]
  have X1 := Lib.hid x1; clear x1
  go_wp2_with fail
  refine (times_any B m d l 3 w1 (HL.out.keep X1.out.keeps) HMM.out (by omega)).mono ?_; rintro e w2 ⟨rfl, x2⟩; rw [HY.out]
  have X2 := Lib.hid (X1.out.trans x2); clear x2
  go_wp2_with fail
  refine (fresh_any A n c w2 HN14.out).mono ?_; rintro e w3 ⟨g1, g2, rfl, h1, h2, h3, h4, h5, x3⟩
  have X3 := Lib.hid (X2.out.trans x3); have O1 := Lib.hid h4; have O2 := Lib.hid h5
  clear h1 h2 h3 h4 h5 x3
  go_wp2_with fail
  obtain ⟨w4, hw4⟩ : ∃ q, q = w3.alloc (.cells #[Bv true, .slice (some ⟨g1, 0, none⟩) n n, .slice (some ⟨g2, 0, none⟩) 3 3] 34) := ⟨_, rfl⟩
  have hx4 : Ext w3 w4 := by rw [hw4]; exact (Ext.refl _).alloc _
  have hb4 : Box w4 w3.heap.size 34 [Bv true, .slice (some ⟨g1, 0, none⟩) n n, .slice (some ⟨g2, 0, none⟩) 3 3] := by rw [hw4]; exact Box.new w3 _ _
  have hr4 : RestC w4 true (some ⟨g1, 0, none⟩) n n (some ⟨g2, 0, none⟩) 3 3 (freshM t.size) := by
    obtain ⟨A1, c1, e1, -, -, s1⟩ := own_sl (own_ext O1.out hx4)
    obtain ⟨A2, c2, e2, -, -, s2⟩ := own_sl (own_ext O2.out hx4)
    injection e1 with e1 _ _; subst e1
    injection e2 with e2 _ _; subst e2
    exact ⟨rfl, by rw [← HN.out]; exact s1, s2, ⟨Nat.le_refl _, HNM.out⟩, ⟨Nat.le_refl _, by unfold maxLen; omega⟩⟩
  have HX4 := Lib.hid (X3.out.trans hx4); have HB4 := Lib.hid hb4; have HR4 := Lib.hid hr4
  rw [← hw4]
  clear hw4 hx4 hb4 hr4
  go_loopw [30, 9] (fun j v9 wr => ∃ (k : Nat) (fr : Bool) (g1 g2 : Nat) (A9 : Option Addr) (c9 : Nat) (r : RestM) (rows : List (List Int)) (vs : List Value), k ≤ m ∧ j = .int .i64 k ∧ v9 = .slice A9 k c9 ∧ Ext w wr ∧ Box wr w3.heap.size 34 [Bv fr, .slice (some ⟨g1, 0, none⟩) n n, .slice (some ⟨g2, 0, none⟩) 3 3] ∧ RestC wr fr (some ⟨g1, 0, none⟩) n n (some ⟨g2, 0, none⟩) 3 3 r ∧ r.waits.length = t.size ∧ r.outs.length = 3 ∧ waitsOK t.flat r.waits ∧
    rows.length = k ∧ OwnRows 23 3 wr w.heap.size (.slice A9 k c9) rows vs ∧ rows ++ runsT t r (l.drop k) = runsT t (freshM t.size) l) (fun j _ _ => m - (intOf j).toNat)
  case atStart => exact ⟨0, true, g1, g2, none, 0, freshM t.size, [], [], Nat.zero_le _, rfl, rfl, HX4.out, HB4.out, HR4.out, by simp [freshM], by simp [freshM], fresh_waits _ _, rfl, OwnRows.nil _ _ _ _, by simp⟩
  case round =>
    obtain ⟨k, fr, q1, q2, A9, c9, r, rows, vs, hk, rfl, rfl, hext, hbx, hrc, hwl, hol, hwo, hrl, hown, hmod⟩ := hrel
    by_cases hlt : k < m
    · obtain ⟨vb, vo, x, rfl, hv0, hvx⟩ := HL.out.at_ hlt
      have hv1 := hext.keeps _ _ hv0
      have hx8 := (timesM_rangeF HY.out).2 x (List.mem_of_getElem? hvx)
      have hm64 : m ≤ 64 := HM.out
      have z0 := hbx.cell 0; have z1 := hbx.cell 1; have z2 := hbx.cell 2
      have fz := hbx.free
      simp only [List.getElem?_cons_zero, List.getElem?_cons_succ] at z0 z1 z2
      have T := Lib.hid (turn_any A n c t fr (some ⟨q1, 0, none⟩) n n (some ⟨q2, 0, none⟩) 3 3 r x wr (H.out.keep hext.keeps) HOK.out HG.out HS.out hrc hwl hol hwo hx8.1 (by simpa using hx8.2))
      have HEX := Lib.hid hext; have HBX := Lib.hid hbx; have HRL := Lib.hid hrl; have HOWN := Lib.hid hown; have HMOD := Lib.hid hmod; have HVX := Lib.hid hvx; have HWO := Lib.hid hwo
      clear hv0 hvx hx8 hext hbx hrc hwl hol hwo hrl hown hmod
      go_wp2_with fail
      refine T.out.mono ?_
      rintro e w5 ⟨p1, p2, rfl, hp1, hp2, hrc5, hx5⟩
      have hbl := HBX.out.lt
      have hb5 := HBX.out.ext hx5
      have HB5 := Lib.hid hb5; have HR5 := Lib.hid hrc5; have HX5 := Lib.hid (HEX.out.trans hx5); have HXX := Lib.hid hx5
      have y0 := hx5.keeps _ _ z0; have y1 := hx5.keeps _ _ z1; have y2 := hx5.keeps _ _ z2
      have f5 := hb5.free
      clear z0 z1 z2 fz T hb5 hrc5 hx5 hv1
      go_upto_region 13 with fail
      obtain ⟨w6, hw6⟩ : ∃ q, q = ((w5.setCell ⟨w3.heap.size, 0, none⟩ (Bv false)).setCell ⟨w3.heap.size, 1, none⟩ (.slice (some ⟨p1, 0, none⟩) n n)).setCell ⟨w3.heap.size, 2, none⟩ (.slice (some ⟨p2, 0, none⟩) 3 3) := ⟨_, rfl⟩
      have n1 : w3.heap.size ≠ p1 := by omega
      have n2 : w3.heap.size ≠ p2 := by omega
      have hr6 : RestC w6 false (some ⟨p1, 0, none⟩) n n (some ⟨p2, 0, none⟩) 3 3 (turnR t r x) := by rw [hw6]; exact ((HR5.out.far n1 n2 _).far n1 n2 _).far n1 n2 _
      have hb6 : Box w6 w3.heap.size 34 [Bv false, .slice (some ⟨p1, 0, none⟩) n n, .slice (some ⟨p2, 0, none⟩) 3 3] := by rw [hw6]; exact ((HB5.out.set 0 (Bv false)).set 1 (.slice (some ⟨p1, 0, none⟩) n n)).set 2 (.slice (some ⟨p2, 0, none⟩) 3 3)
      have hx6 : Ext w w6 := by
        have h3 := X3.out.size
        rw [hw6]; exact ((HX5.out.setCell (p := ⟨w3.heap.size, 0, none⟩) h3 _).setCell (p := ⟨w3.heap.size, 1, none⟩) h3 _).setCell (p := ⟨w3.heap.size, 2, none⟩) h3 _
      have ho6 : OwnRows 23 3 w6 w.heap.size (.slice A9 k c9) rows vs := by rw [hw6]; exact (((HOWN.out.ext HXX.out).setB HB5.out 0 (Bv false)).setB (HB5.out.set 0 (Bv false)) 1 (.slice (some ⟨p1, 0, none⟩) n n)).setB ((HB5.out.set 0 (Bv false)).set 1 (.slice (some ⟨p1, 0, none⟩) n n)) 2 (.slice (some ⟨p2, 0, none⟩) 3 3)
      have HOW6 := Lib.hid ho6
      have HP1 : Hid ((Value.slice A9 k c9).ownBlock ≠ some p1 ∧ (Value.slice A9 k c9).ownBlock ≠ some p2) := ⟨fun e => by have := (HOWN.out.row.lt p1 e).2; omega, fun e => by have := (HOWN.out.row.lt p2 e).2; omega⟩
      rw [← hw6]
      have HR6 := Lib.hid hr6; have HB6 := Lib.hid hb6; have HX6 := Lib.hid hx6
      clear y0 y1 y2 f5 hw6 n1 n2 hr6 hb6 hx6 hbl hp1 hp2 ho6
      obtain ⟨R, hR⟩ : ∃ R, R = turnR t r x := ⟨_, rfl⟩
      have hol6 : R.outs.length = 3 := by rw [hR]; exact (turn_len t r x).2
      have hr7 := HR6.out
      rw [← hR] at hr7
      have y2 := HB6.out.cell 2
      simp only [List.getElem?_cons_zero, List.getElem?_cons_succ] at y2
      have HRR := Lib.hid hR; have HO6 := Lib.hid hol6; have HR7 := Lib.hid hr7
      obtain ⟨inf, hti, htz, hts1, hts2⟩ := info_parts tab_int'
      have HTI := Lib.hid hti; have HTZ := Lib.hid htz; have HT1 := Lib.hid hts1; have HT2 := Lib.hid hts2
      clear hR hol6 hr7 hti htz hts1 hts2
      go_wp2_with fail
      clear y2
      go_loopw [44, 12] (fun j v12 wr => ∃ (i : Nat) (A12 : Option Addr) (c12 : Nat), i ≤ 3 ∧ j = .int .i64 i ∧ v12 = .slice A12 i c12 ∧ Ext w6 wr ∧ wr.ownsRow w6.heap.size 3 1 (.slice A12 i c12) i (((R.outs.take i).map bI).map I)) (fun j _ _ => 3 - (intOf j).toNat)
      case atStart => exact ⟨0, none, 0, Nat.zero_le _, rfl, rfl, Ext.refl _, World.ownsRow_nil _ _ _ _⟩
      case round =>
        obtain ⟨i, A12, c12, hi, rfl, rfl, hext6, hown6⟩ := hrel
        by_cases hi3 : i < 3
        · obtain ⟨vb2, vo2, y, hvb, hv2, hvy⟩ := (HR7.out.keep hext6.keeps).outs.at_ hi3
          injection hvb with hvb
          injection hvb with hvb1 hvb2 _
          subst hvb1; subst hvb2
          have HE6 := Lib.hid hext6; have HO12 := Lib.hid hown6; have HVY := Lib.hid hvy
          have hs6 : w6.heap.size ≤ wr.heap.size := hext6.size
          have HS6 := Lib.hid hs6
          clear hext6 hown6 hvy hs6
          cases y
          · have hv3 : wr.cell? ⟨p2, i, none⟩ = some (Bv false) := by rw [show i = 0 + i from by omega]; exact hv2
            clear hv2
            go_wp2_with (at_builtin; refine wpList_append_lies _ rfl (.tmp 49) (.tmp 51) 23 rfl w6.heap.size 3 inf _ 1 8 Tryd.underlying23 HTI.out HTZ.out HT1.out HT2.out rfl (by omega) (.slice A12 i c12) i (((R.outs.take i).map bI).map I) rfl (own_ext HO12.out ((Ext.refl wr).alloc (.cells #[I 0] 3))) ⟨wr.heap.size, 0, none⟩ 1 1 [I 0] rfl rfl (fun j u hu => by rw [add_zero, World.cell?_alloc_new]; simpa using hu) (by simp [Value.oneCell']) (by omega) (by unfold maxLen; omega) (by omega) (Nat.le_trans HS6.out (by simp)) _ rfl ?_; intro g6 cap6 w7 hown7 hgr7 hat7 hlt7; have HO7 := Lib.hid hown7; have HG7 := Lib.hid hgr7; clear hown7 hgr7 hat7 hlt7)
            have hx7 := (Ext.refl wr).alloc (.cells #[I 0] 3)
            have hE7 : Ext w6 w7 := by
              have hg := HG7.out
              have he := HE6.out.trans hx7
              exact ⟨hg.os.trans he.os, hg.tape.trans he.tape, hg.output.trans he.output, Nat.le_trans he.size hg.size, fun q hq => (hg.block q (Nat.lt_of_lt_of_le hq he.size) (fun e => by have := (HO12.out.lt q e.symm).1; omega)).trans (he.block q hq)⟩
            have HE7 := Lib.hid hE7
            clear hx7 hE7
            go_roundw
            case rel => exact ⟨i + 1, _, _, by omega, by go_num, rfl, HE7.out, by rw [take_snoc HVY.out]; simpa [bI] using HO7.out⟩
            case measure => simp [intOf]; omega
          · have hv3 : wr.cell? ⟨p2, i, none⟩ = some (Bv true) := by rw [show i = 0 + i from by omega]; exact hv2
            clear hv2
            go_wp2_with (at_builtin; refine wpList_append_lies _ rfl (.tmp 49) (.tmp 51) 23 rfl w6.heap.size 3 inf _ 1 8 Tryd.underlying23 HTI.out HTZ.out HT1.out HT2.out rfl (by omega) (.slice A12 i c12) i (((R.outs.take i).map bI).map I) rfl (own_ext HO12.out ((Ext.refl wr).alloc (.cells #[I 1] 3))) ⟨wr.heap.size, 0, none⟩ 1 1 [I 1] rfl rfl (fun j u hu => by rw [add_zero, World.cell?_alloc_new]; simpa using hu) (by simp [Value.oneCell']) (by omega) (by unfold maxLen; omega) (by omega) (Nat.le_trans HS6.out (by simp)) _ rfl ?_; intro g6 cap6 w7 hown7 hgr7 hat7 hlt7; have HO7 := Lib.hid hown7; have HG7 := Lib.hid hgr7; clear hown7 hgr7 hat7 hlt7)
            have hx7 := (Ext.refl wr).alloc (.cells #[I 1] 3)
            have hE7 : Ext w6 w7 := by
              have hg := HG7.out
              have he := HE6.out.trans hx7
              exact ⟨hg.os.trans he.os, hg.tape.trans he.tape, hg.output.trans he.output, Nat.le_trans he.size hg.size, fun q hq => (hg.block q (Nat.lt_of_lt_of_le hq he.size) (fun e => by have := (HO12.out.lt q e.symm).1; omega)).trans (he.block q hq)⟩
            have HE7 := Lib.hid hE7
            clear hx7 hE7
            go_roundw
            case rel => exact ⟨i + 1, _, _, by omega, by go_num, rfl, HE7.out, by rw [take_snoc HVY.out]; simpa [bI] using HO7.out⟩
            case measure => simp [intOf]; omega
        · have hi3' : i = 3 := by omega
          have htk : (R.outs.take i) = R.outs := List.take_of_length_le (by rw [HO6.out]; omega)
          rw [htk] at hown6
          subst hi3'
          have hxw := HX6.out.trans hext6
          have hr := own_base hown6 HX6.out.size
          have HRW := Lib.hid hr
          have HOW := Lib.hid (HOW6.out.ext hext6)
          have HB := Lib.hid (HB6.out.ext hext6)
          have HRC := Lib.hid (HR7.out.keep hext6.keeps)
          have HXW := Lib.hid hxw
          have hlr : rows.length = k := HRL.out
          have HLR := Lib.hid hlr
          have hm64 : m ≤ 64 := HM.out
          clear hext6 hown6 hr hxw htk hlr
          go_wp2_with (at_builtin; refine wpList_push rfl (.tmp 54) (.tmp 56) 27 23 rfl tab_ints Tryd.underlying27 rfl (by omega) w wr HXW.out (.slice A9 k c9) k vs rfl (by have := HOW.out.row; rw [HLR.out] at this; exact this) [.slice A12 3 c12] rfl rfl rfl (by simp [Value.oneCell']) (by unfold maxLen; omega) (by omega) ?_; intro v' w8 hown8 hx8 hg8)
          have HOWN8 := Lib.hid hown8; have HX8 := Lib.hid hx8; have HG8 := Lib.hid hg8
          clear hown8 hx8 hg8
          go_roundw
          case rel =>
            obtain ⟨g9, cap9, e9⟩ : ∃ g9 cap9, v' = .slice g9 (k + 1) cap9 := by
              obtain ⟨A, c, e, -⟩ := own_slice HOWN8.out
              exact ⟨A, c, e⟩
            subst e9
            refine ⟨k + 1, false, p1, p2, g9, cap9, R, rows ++ [R.outs.map bI], vs ++ [.slice A12 3 c12], by omega, by go_num, rfl, HX8.out, HB.out.kept HG8.out (HB.out.apart HOW.out.row (by decide)), HRC.out.grown HG8.out HP1.out.1 HP1.out.2, ?_, HO6.out, ?_, by simp [HLR.out], ?_, ?_⟩
            · rw [HRR.out]; exact (turn_len t r x).1
            · rw [HRR.out]; exact turn_waits x HOK.out HG.out HWO.out
            · refine HOW.out.push (by decide) (by rw [List.length_map, HO6.out]; exact HRW.out) (by rw [HLR.out]; exact HOWN8.out) HG8.out
            · rw [HRR.out]; exact rows_app HMOD.out HVX.out
          case measure => simp [intOf]; omega
    · have hkm : k = m := by omega
      subst hkm
      have hlen : l.length = k := by have := HL.out.len; simpa using this
      rw [List.drop_eq_nil_of_le (by omega)] at hmod
      have hrows : rows = runsT t (freshM t.size) l := by simpa [runsT] using hmod
      rw [hrows] at hown
      have HX := Lib.hid hext; have HOWN := Lib.hid hown
      clear hext hbx hrc hwl hol hwo hrl hown hmod hlen hrows
      go_wp2
      exact bodyPost_ret (v := Pr (.slice A9 k c9) (I 0)) (by simp [results, Tryd.results5, go_sem]) rfl ⟨_, vs, rfl, HOWN.out, HX.out⟩
end Go.Proofs.YtgohhcnmkomafaaDoor
namespace Go.Proofs.YtgohhcnmkomafaaDoor
open Go.RowKit
/-- What Run hands back beside its error. -/
def runRows (p : List PNode) (l : List Int) : List (List Int) := if runErr p l = 0 then runsT (treeOf p) (freshM (treeOf p).size) l else []
theorem runErr_ok {p : List PNode} {l : List Int} (h : runErr p l = 0) : checkP p = 0 ∧ timesM l 3 = 0 := by
  unfold runErr at h
  split at h
  · rename_i h0; exact ⟨h0, h⟩
  · rename_i h0; exact absurd h h0
theorem frun_any (A : Option Addr) (n c : Nat) (p : List PNode) (B : Option Addr) (m d : Nat) (l : List Int) (w : World) (h : SlN w A n p) (hn : n ≤ maxLen) (hl : Sl w B m (l.map I)) (hm : m ≤ maxLen) :
    Calls Tryd.prog 5 #[.slice A n c, .slice B m d] w fun e w' => ∃ v vs, e = .returned (Pr v (I (runErr p l))) ∧ OwnRows 23 3 w' w.heap.size v (runRows p l) vs ∧ Ext w w' := by
  by_cases h0 : runErr p l = 0
  · obtain ⟨h1, h2⟩ := runErr_ok h0
    obtain ⟨t1, t2, t3, t4⟩ := tree_of h1
    have hm64 : m ≤ 64 := by have := (timesM_rangeF h2).1; have := hl.len; omega
    rw [runRows, if_pos h0, h0]
    exact run_good A n c (treeOf p) B m d l w (by rw [← t2]; exact h) t1 t4 t3 (by rw [← t2]; exact h1) hl hm64 h2
  · refine (run_bad A n c p B m d l w h hn hl hm h0).mono ?_
    rintro e w' ⟨h1, h2⟩
    rw [runRows, if_neg h0]
    exact ⟨_, [], h1, OwnRows.nil _ _ _ _, h2⟩
end Go.Proofs.YtgohhcnmkomafaaDoor
/- A script of ticks, in plain Lean. -/
namespace Go.Proofs.YtgohhcnmkomafaaDoor
set_option linter.unusedVariables false
set_option linter.unusedSimpArgs false
/-- What inputs give as text, up to one. -/
def inPart (x j : Nat) : List UInt8 := ((List.range j).map fun i => if x / 2 ^ i % 2 = 1 then [32, UInt8.ofNat (120 + i)] else []).flatten
theorem inPart_all : ∀ x, x < 8 → inPart x 3 = insText x := by decide
theorem inPart_next (x j : Nat) : inPart x (j + 1) = inPart x j ++ (if x / 2 ^ j % 2 = 1 then [32, UInt8.ofNat (120 + j)] else []) := by
  simp [inPart, List.range_succ]
theorem inPart_len (x : Nat) : ∀ j, (inPart x j).length ≤ 2 * j
  | 0 => by simp [inPart]
  | j + 1 => by
    have := inPart_len x j
    rw [inPart_next, List.length_append]
    split <;> simp <;> omega
theorem outW_snoc (b : Bool) : ∀ (l : List Bool) (k : Nat), outW (l ++ [b]) k = outW l k ++ (if b then [[UInt8.ofNat (65 + (k + l.length))]] else [])
  | [], k => by simp [outW]
  | a :: l, k => by simp [outW, outW_snoc b l (k + 1), Nat.add_assoc, Nat.add_comm 1]
/-- Words, a blank ahead of each. -/
def lineW (ws : List (List UInt8)) : List UInt8 := (ws.map (32 :: ·)).flatten
theorem lineW_snoc (ws : List (List UInt8)) (x : List UInt8) : lineW (ws ++ [x]) = lineW ws ++ 32 :: x := by simp [lineW]
theorem lineW_cons (a : List UInt8) (ws : List (List UInt8)) : lineW (a :: ws) = 32 :: a ++ lineW ws := by simp [lineW]
theorem lineW_inter : ∀ (a : List UInt8) (ws : List (List UInt8)), [32].intercalate (a :: ws) = a ++ lineW ws
  | a, [] => by simp [lineW, List.intercalate]
  | a, b :: ws => by rw [intercalate_cons 32 a (by simp), lineW_inter b ws, lineW_cons]; rfl
theorem listed_line (ws : List (List UInt8)) : listedT ws = (if lineW ws = [] then [32, 45] else lineW ws).drop 1 := by
  unfold listedT
  cases ws with
  | nil => simp [lineW]
  | cons a l => rw [if_neg (by simp), if_neg (by simp [lineW]), lineW_inter, lineW_cons]; rfl
theorem lineW_len {ws : List (List UInt8)} (h : ∀ x ∈ ws, x.length ≤ 4) : (lineW ws).length ≤ 5 * ws.length := by
  induction ws with
  | nil => simp [lineW]
  | cons a l ih =>
    have h1 := h a (by simp)
    have h2 := ih (fun x hx => h x (by simp [hx]))
    rw [lineW_cons, List.length_append, List.length_cons, List.length_cons]; omega
/-- The script of ticks of some inputs. -/
def tickT (x : Int) : List UInt8 := tickB ++ insText x.toNat
def scriptT (l : List Int) : List UInt8 := (l.map fun x => tickT x ++ [10]).flatten
theorem ins_facts : ∀ x, x < 8 → (10 : UInt8) ∉ insText x ∧ (insText x).length ≤ 6 := by decide
theorem tickT_facts {x : Int} (h0 : 0 ≤ x) (h8 : x < 8) : (10 : UInt8) ∉ tickT x ∧ (tickT x).length ≤ 10 := by
  obtain ⟨h1, h2⟩ := ins_facts x.toNat (by omega)
  refine ⟨fun h => ?_, by simp only [tickT, tickB, List.length_append, List.length_cons, List.length_nil]; omega⟩
  rcases List.mem_append.1 h with h | h
  · revert h; decide
  · exact h1 h
theorem script_cons (x : Int) (l : List Int) : scriptT (x :: l) = tickT x ++ 10 :: scriptT l := by simp [scriptT]
theorem script_snoc (l : List Int) (x : Int) : scriptT (l ++ [x]) = scriptT l ++ (tickT x ++ [10]) := by simp [scriptT]
theorem script_lines : ∀ l : List Int, (∀ x ∈ l, 0 ≤ x ∧ x < 8) → linesFrom [] (scriptT l) = l.map tickT
  | [], _ => rfl
  | x :: l, h => by
    have hx := h x (by simp)
    rw [script_cons, linesFrom_piece _ _ _ (tickT_facts hx.1 hx.2).1, script_lines l (fun y hy => h y (by simp [hy]))]; rfl
theorem script_count : ∀ l : List Int, (∀ x ∈ l, 0 ≤ x ∧ x < 8) → (scriptT l).count 10 = l.length := fun l h => by
  have := linesFrom_len (scriptT l) []
  rw [script_lines l h, List.length_map] at this; exact this.symm
theorem script_len : ∀ l : List Int, (∀ x ∈ l, 0 ≤ x ∧ x < 8) → (scriptT l).length ≤ 11 * l.length
  | [], _ => by simp [scriptT]
  | x :: l, h => by
    have hx := h x (by simp)
    have h1 := (tickT_facts hx.1 hx.2).2
    have h2 := script_len l (fun y hy => h y (by simp [hy]))
    rw [script_cons, List.length_append, List.length_cons, List.length_cons]; omega
theorem script_last (l : List Int) : scriptT l = [] ∨ (scriptT l).getLast? = some 10 := by
  rcases List.eq_nil_or_concat l with rfl | ⟨l', x, rfl⟩
  · exact .inl rfl
  · right; rw [List.concat_eq_append, script_snoc]; simp
/-- What the desk tells, tick by tick. -/
def wantT (t : Tr) : RestM → List Int → List UInt8
  | _, [] => []
  | r, x :: l => listedT (tickW (turnR t r x).outs (turnM t r x).1) ++ 10 :: wantT t (turnR t r x) l
theorem play_script (t : Tr) : ∀ (l : List Int) (r : RestM), (∀ x ∈ l, 0 ≤ x ∧ x < 8) → playL t r (l.map tickT) = wantT t r l
  | [], _, _ => rfl
  | x :: l, r, h => by
    have hx := h x (by simp)
    have hs : stepL t r (tickT x) = (turnR t r x, listedT (tickW (turnR t r x).outs (turnM t r x).1)) := by
      unfold stepL tickT
      rw [tickM_text x.toNat (by omega)]
      simp only []
      rw [Int.toNat_of_nonneg hx.1]
    rw [List.map_cons, playL, hs, play_script t l _ (fun y hy => h y (by simp [hy]))]; rfl
theorem ticks_play {t : Tr} (ok : t.ok) (hg : ∀ x ∈ t.flat, goodN x) (hs : t.size ≤ 14) {l : List Int} (hl : l.length ≤ 40) (h : ∀ x ∈ l, 0 ≤ x ∧ x < 8) (htl : (textT t).length ≤ 4096) :
    playE (textT t) (scriptT l) = 0 ∧ playV (textT t) (scriptT l) = wantT t (freshM t.size) l := by
  have hp := progOf_text ok hg hs
  have he : playE (textT t) (scriptT l) = 0 := by
    unfold playE
    rw [if_neg (by omega), if_neg (by rw [hp]; simp), if_neg (by have := script_len l h; have := script_count l h; omega), if_neg (by
      rcases script_last l with h1 | h1
      · simp [h1]
      · simp [h1])]
  refine ⟨he, ?_⟩
  unfold playV
  rw [hp]; simp only []; rw [if_pos he, script_lines l h, play_script t l _ h]
end Go.Proofs.YtgohhcnmkomafaaDoor
/- Step of package walk. -/
namespace Go.Proofs.YtgohhcnmkomafaaDoor
set_option linter.unusedVariables false
set_option linter.unusedSimpArgs false
open Go.RowKit
set_option maxRecDepth 100000 in
set_option maxHeartbeats 8000000 in
theorem walkStep_any (PA : Option Addr) (n pc : Nat) (p : List PNode) (fr : Bool) (WA : Option Addr) (wn wc : Nat) (OA : Option Addr) (on oc : Nat) (r : RestM) (ins : Int) (w : World)
    (hp : SlN w PA n p) (hr : RestC w fr WA wn wc OA on oc r) (hn : n ≤ maxLen) :
    Calls Tryd.prog 9 #[.slice PA n pc, restV fr WA wn wc OA on oc, I ins] w fun e w' => RestB w w' e (stepM p r ins).1 (stepM p r ins).2.1 (stepM p r ins).2.2 := by
  generalize hM : stepM p r ins = M
  unfold stepM at hM
  have hpl := hp.1
  obtain ⟨W, hW⟩ : ∃ W, W = w.alloc (.cells #[Bv fr, .slice WA wn wc, .slice OA on oc] 34) := ⟨_, rfl⟩
  obtain ⟨W2, hW2⟩ : ∃ W2, W2 = W.alloc (.cells #[.bool false, .slice none 0 0, .slice none 0 0] 34) := ⟨_, rfl⟩
  obtain ⟨p0, p1, p2, hsz⟩ := restBox w fr WA wn wc OA on oc hW
  obtain ⟨y0, y1, y2, hsz2⟩ := restBox W false none 0 0 none 0 0 hW2
  have hWs : W.heap.size = w.heap.size + 1 := by rw [hW]; simp
  rw [hWs] at y0 y1 y2
  have f1 : ∀ j, W2.frozen? ⟨w.heap.size + 1, j, none⟩ = false := fun j => by rw [hW2, ← hWs]; exact World.frozen?_alloc_at _ _ _ _ rfl
  have hxW2 : Ext W W2 := by rw [hW2]; exact (Ext.refl _).alloc _
  have hx2 : Ext w W2 := Ext.trans (by rw [hW]; exact (Ext.refl _).alloc _) hxW2
  have x0 := hxW2.keeps _ _ p0; have x1 := hxW2.keeps _ _ p1; have x2 := hxW2.keeps _ _ p2
  have hb2 : w.heap.size + 1 < W2.heap.size := by omega
  have hW3 : W2 = (w.alloc (.cells #[Bv fr, .slice WA wn wc, .slice OA on oc] 34)).alloc (.cells #[.bool false, .slice none 0 0, .slice none 0 0] 34) := by rw [hW2, hW]
  have CK := Lib.hid (walkCheck_any PA n pc p fr WA wn wc OA on oc r W2 (hp.keep hx2.keeps) (hr.keep hx2.keeps) hn)
  have HW := Lib.hid hW3; have HP := Lib.hid (hp.keep hx2.keeps); have HR := Lib.hid (hr.keep hx2.keeps); have HX2 := Lib.hid hx2
  clear hp hr hW hW2 hxW2 p0 p1 p2 hsz hsz2 hWs hW3 hx2
  by_cases h0 : checkR p r ≠ 0
  · rw [if_pos h0] at hM
    have HM := Lib.hid hM; clear hM
    go_enter Tryd.func9, Tryd.ntmps9
    go_wp2_with fail
    rw [← HW.out]
    go_wp2_with fail
    refine CK.out.mono ?_; rintro e w1 ⟨rfl, hx1⟩
    have z0 := hx1.keeps _ _ y0; have z1 := hx1.keeps _ _ y1; have z2 := hx1.keeps _ _ y2
    have ff : ∀ j, w1.frozen? ⟨w.heap.size + 1, j, none⟩ = false := fun j => by rw [World.frozen?_of_block (a := ⟨w.heap.size + 1, j, none⟩) (hx1.block _ hb2)]; exact f1 j
    go_wp2
    refine bodyPost_ret (v := Pr3 (restV false none 0 0 none 0 0) (Bv false) (I (checkR p r))) (by simp [results, Tryd.results9, go_sem, z0, z1, z2]) rfl ⟨false, none, 0, 0, none, 0, 0, by rw [← HM.out], by rw [← HM.out]; exact RestC.zero _, NewA.no _, NewA.no _, ?_⟩
    exact (((HX2.out.trans hx1).setCell (by show w.heap.size ≤ w.heap.size + 1; omega) _).setCell (by show w.heap.size ≤ w.heap.size + 1; omega) _).setCell (by show w.heap.size ≤ w.heap.size + 1; omega) _
  rw [if_neg h0] at hM
  have h00 : checkR p r = 0 := by simpa using h0
  have H00 := Lib.hid h00
  obtain ⟨k1, k2, k3, -⟩ := checkR_ok h00
  have k4 := checkR_waits h00
  clear h0 h00
  by_cases h1 : ins < 0 ∨ 8 ≤ ins
  · rw [if_pos h1] at hM
    have HM := Lib.hid hM
    have hd : ins < 0 ∨ (¬ ins < 0 ∧ 8 ≤ ins) := by omega
    clear hM h1 k1 k2 k3 k4
    rcases hd with hd | ⟨hd, hd2⟩
    all_goals
      go_enter Tryd.func9, Tryd.ntmps9
      go_wp2_with fail
      rw [← HW.out]
      go_wp2_with fail
      refine CK.out.mono ?_; rintro e w1 ⟨rfl, hx1⟩; rw [H00.out]
      have z0 := hx1.keeps _ _ y0; have z1 := hx1.keeps _ _ y1; have z2 := hx1.keeps _ _ y2
      have ff : ∀ j, w1.frozen? ⟨w.heap.size + 1, j, none⟩ = false := fun j => by rw [World.frozen?_of_block (a := ⟨w.heap.size + 1, j, none⟩) (hx1.block _ hb2)]; exact f1 j
      go_wp2
      refine bodyPost_ret (v := Pr3 (restV false none 0 0 none 0 0) (Bv false) (I 3)) (by simp [results, Tryd.results9, go_sem, z0, z1, z2]) rfl ⟨false, none, 0, 0, none, 0, 0, by rw [← HM.out], by rw [← HM.out]; exact RestC.zero _, NewA.no _, NewA.no _, ?_⟩
      exact (((HX2.out.trans hx1).setCell (by show w.heap.size ≤ w.heap.size + 1; omega) _).setCell (by show w.heap.size ≤ w.heap.size + 1; omega) _).setCell (by show w.heap.size ≤ w.heap.size + 1; omega) _
  · rw [if_neg h1] at hM
    have i0 : ¬ ins < 0 := by omega
    have i8 : ¬ 8 ≤ ins := by omega
    have j0 : 0 ≤ ins := by omega
    have j8 : ins < 8 := by omega
    obtain ⟨t1, t2, t3, t4⟩ := tree_of k1
    have TN := fun w1 (hx1 : Ext W2 w1) => turn_any PA n pc (treeOf p) fr WA wn wc OA on oc r ins w1 (by rw [← t2]; exact HP.out.keep hx1.keeps) t1 t4 t3 (HR.out.keep hx1.keeps) (by rw [k2, ← flat_size, ← t2]) k3 (by rw [← t2]; exact k4) j0 j8
    have HTN := Lib.hid TN
    have HM := Lib.hid hM
    clear TN hM h1 k1 k2 k3 k4 t1 t2 t3 t4
    go_enter Tryd.func9, Tryd.ntmps9
    go_wp2_with fail
    rw [← HW.out]
    go_wp2_with fail
    refine CK.out.mono ?_; rintro e w1 ⟨rfl, hx1⟩; rw [H00.out]
    have v0 := hx1.keeps _ _ x0; have v1 := hx1.keeps _ _ x1; have v2 := hx1.keeps _ _ x2
    have hs1 : w.heap.size + 1 < w1.heap.size := Nat.lt_of_lt_of_le hb2 hx1.size
    go_wp2_with fail
    refine (HTN.out w1 hx1).mono ?_; rintro e w2 ⟨g1, g2, rfl, hg1, hg2, hR, hx2⟩
    have hx := hx1.trans hx2
    have z0 := hx.keeps _ _ y0; have z1 := hx.keeps _ _ y1; have z2 := hx.keeps _ _ y2
    have ff : ∀ j, w2.frozen? ⟨w.heap.size + 1, j, none⟩ = false := fun j => by rw [World.frozen?_of_block (a := ⟨w.heap.size + 1, j, none⟩) (hx.block _ hb2)]; exact f1 j
    have n1 : w.heap.size + 1 ≠ g1 := by omega
    have n2 : w.heap.size + 1 ≠ g2 := by omega
    have hs2 : w.heap.size + 1 < w2.heap.size := Nat.lt_of_lt_of_le hs1 hx2.size
    have n3 : w.heap.size + 1 ≠ w2.heap.size := by omega
    have ng1 : w.heap.size ≤ g1 := by omega
    have ng2 : w.heap.size ≤ g2 := by omega
    have NG1 := Lib.hid ng1; have NG2 := Lib.hid ng2; clear ng1 ng2
    have HRR := Lib.hid hR; have HX := Lib.hid (HX2.out.trans hx)
    clear hR hx hx1 hx2 v0 v1 v2 x0 x1 x2 y0 y1 y2 hg1 hg2
    go_wp2
    have al : ∀ (Q : World) (o : Obj) (j : Nat), w.heap.size + 1 < Q.heap.size → (Q.alloc o).cell? ⟨w.heap.size + 1, j, none⟩ = Q.cell? ⟨w.heap.size + 1, j, none⟩ := fun Q o j h => World.cell?_alloc_lt Q o _ h
    refine bodyPost_ret (v := Pr3 (restV false (some ⟨g1, 0, none⟩) n n (some ⟨g2, 0, none⟩) 3 3) (Bv (turnM (treeOf p) r ins).1) (I 0)) (by simp [results, Tryd.results9, go_sem, al, hs2, z0, z1, z2]) rfl ⟨false, some ⟨g1, 0, none⟩, n, n, some ⟨g2, 0, none⟩, 3, 3, by rw [← HM.out], by rw [← HM.out]; exact (((HRR.out.far n1 n2 _).far n1 n2 _).far n1 n2 _).keep (Keeps.alloc _ _), NewA.at NG1.out, NewA.at NG2.out, ?_⟩
    exact (((HX.out.setCell (by show w.heap.size ≤ w.heap.size + 1; omega) _).setCell (by show w.heap.size ≤ w.heap.size + 1; omega) _).setCell (by show w.heap.size ≤ w.heap.size + 1; omega) _).alloc _
end Go.Proofs.YtgohhcnmkomafaaDoor
