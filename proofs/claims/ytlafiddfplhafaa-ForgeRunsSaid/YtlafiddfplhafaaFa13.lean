/- slices.Repeat of one number; Fold's closure; a gate of the call's own. -/
import Derived.Test.YtlafiddfplhafaaFa12
import Derived.Deep.RegionLaw
import Derived.Test.YtlafiddfplhafaaFa02
import Derived.Test.YtlafiddfplhafaaFa04
import Derived.Test.YtlafiddfplhafaaFa08
import Derived.Test.YtlafiddfplhafaaFa10
import Derived.Test.YtlafiddfplhafaaFa11
namespace Go.Proofs.Ytlafiddfplhafaa
set_option linter.unusedVariables false
set_option linter.unusedSimpArgs false
set_option linter.unusedVariables false
set_option linter.unusedSimpArgs false
open Go.RowKit
end Go.Proofs.Ytlafiddfplhafaa
/- Sweeping, in plain Lean: folded and dropped nets. No Go in sight. -/
namespace Go.Proofs.Ytlafiddfplhafaa
set_option linter.unusedVariables false
set_option linter.unusedSimpArgs false
/-! Fold -/
def foldG (g : GateM) (x : Int) : GateM := if x = 0 then ⟨0, 0, []⟩ else if x = 1 then ⟨1, 0, []⟩ else g
def foldGs : List GateM → List Int → List GateM
  | g :: gs, x :: v => foldG g x :: foldGs gs v
  | gs, [] => gs
  | [], _ => []
def foldV (N : NetM) : List Int := settledM N.gates (opensM N.regs.length) (opensM N.ins.toNat)
def foldN (N : NetM) : NetM := { N with gates := foldGs N.gates (foldV N) }
theorem foldGs_at : ∀ (gs : List GateM) (v : List Int) (k : Nat) (g : GateM), gs.length = v.length → gs[k]? = some g → (foldGs gs v)[k]? = some (foldG g (valI v k))
  | [], v, k, g, _, h => by simp at h
  | g :: gs, [], k, x, h, _ => by simp at h
  | g :: gs, y :: v, 0, x, _, h => by simp at h; subst h; simp [foldGs, valI]
  | g :: gs, y :: v, k + 1, x, hl, h => by
    have := foldGs_at gs v k x (by simpa using hl) (by simpa using h)
    simp only [foldGs, List.getElem?_cons_succ, this]
    simp [valI]
theorem foldGs_len : ∀ (gs : List GateM) (v : List Int), gs.length = v.length → (foldGs gs v).length = gs.length
  | [], [], _ => rfl
  | [], y :: v, h => by simp at h
  | g :: gs, [], h => by simp at h
  | g :: gs, y :: v, h => by simp [foldGs, foldGs_len gs v (by simpa using h)]
theorem foldV_len (N : NetM) : (foldV N).length = N.gates.length := settled_len _ _ _
theorem foldN_len (N : NetM) : (foldN N).gates.length = N.gates.length := foldGs_len _ _ (foldV_len N).symm
theorem mem_foldGs : ∀ {gs : List GateM} {v : List Int} {x : GateM}, x ∈ foldGs gs v → x ∈ gs ∨ x = ⟨0, 0, []⟩ ∨ x = ⟨1, 0, []⟩
  | [], [], x, h => .inl h
  | [], _ :: _, x, h => by simp [foldGs] at h
  | g :: gs, [], x, h => .inl h
  | g :: gs, y :: v, x, h => by
    simp only [foldGs, List.mem_cons] at h
    rcases h with h | h
    · unfold foldG at h
      split at h
      · exact .inr (.inl h)
      split at h
      · exact .inr (.inr h)
      · exact .inl (by simp [h])
    · rcases mem_foldGs h with e | e
      · exact .inl (by simp [e])
      · exact .inr e
theorem foldN_ok {N : NetM} (h : NetOK N) : NetOK (foldN N) := by
  have hl := foldN_len N
  have each : ∀ g ∈ (foldN N).gates, g ∈ N.gates ∨ g = ⟨0, 0, []⟩ ∨ g = ⟨1, 0, []⟩ := fun g hg => mem_foldGs hg
  refine ⟨h.ins0, h.ins3, by rw [hl]; exact h.gl, h.rl, h.ol, fun g hg => ?_, fun k hk => ?_, fun g hg => ?_, fun g hg => ?_⟩
  · rcases each g hg with e | rfl | rfl
    · exact h.al g e
    · simp
    · simp
  · rw [hl]
    refine h.named k ?_
    unfold namedM at hk ⊢
    simp only [List.mem_append] at hk ⊢
    rcases hk with e | e
    · exact .inl e
    · obtain ⟨g, hg, ha⟩ := List.mem_flatMap.1 e
      rcases each g hg with e | rfl | rfl
      · exact .inr (List.mem_flatMap.2 ⟨g, e, ha⟩)
      · simp at ha
      · simp at ha
  · rcases each g hg with e | rfl | rfl
    · exact h.kinds g e
    · simp
    · simp
  · rcases each g hg with e | rfl | rfl
    · exact h.form g e
    · simp [formM]
    · simp [formM]
/-! Drop -/
def isM (N : NetM) : List Bool := needsM N.gates (N.outs ++ nextsM N)
def keptFrom : List Bool → Int → List Int
  | [], _ => []
  | b :: l, k => if b then k :: keptFrom l (k + 1) else -1 :: keptFrom l k
def toM (N : NetM) : List Int := keptFrom (isM N) 0
def renG (tl : List Int) (g : GateM) : GateM := ⟨g.kind, g.num, g.args.map (valI tl)⟩
def keepGs (f : GateM → GateM) : List GateM → List Bool → List GateM
  | g :: gs, b :: l => if b then f g :: keepGs f gs l else keepGs f gs l
  | _, _ => []
def dropN (N : NetM) : NetM := ⟨N.ins, keepGs (renG (toM N)) N.gates (isM N), N.regs.map fun r => ⟨r.fst, valI (toM N) r.next⟩, N.outs.map (valI (toM N))⟩
theorem keptFrom_at : ∀ (l : List Bool) (k : Int) (j : Nat) (b : Bool), l[j]? = some b → (keptFrom l k)[j]? = some (if b then k + (cnt (l.take j) : Nat) else -1)
  | [], _, j, b, h => by simp at h
  | c :: l, k, 0, b, h => by simp at h; subst h; cases c <;> simp [keptFrom, cnt]
  | c :: l, k, j + 1, b, h => by
    have h' : l[j]? = some b := by simpa using h
    cases c with
    | true =>
      simp only [keptFrom, if_true, List.getElem?_cons_succ, keptFrom_at l (k + 1) j b h', List.take_succ_cons, cnt, List.countP_cons]
      cases b <;> simp; omega
    | false =>
      simp only [keptFrom, Bool.false_eq_true, if_false, List.getElem?_cons_succ, keptFrom_at l k j b h', List.take_succ_cons, cnt, List.countP_cons]
      cases b <;> simp
theorem keepGs_len (f : GateM → GateM) : ∀ (gs : List GateM) (l : List Bool), gs.length = l.length → (keepGs f gs l).length = cnt l
  | [], [], _ => rfl
  | [], _ :: _, h => by simp at h
  | _ :: _, [], h => by simp at h
  | g :: gs, b :: l, h => by
    have ih := keepGs_len f gs l (by simpa using h)
    cases b <;> simp [keepGs, cnt, ih] at *
theorem keepGs_at (f : GateM → GateM) : ∀ (gs : List GateM) (l : List Bool) (j : Nat) (g : GateM), gs[j]? = some g → l[j]? = some true → (keepGs f gs l)[cnt (l.take j)]? = some (f g)
  | [], _, j, g, h, _ => by simp at h
  | _ :: _, [], j, g, _, h => by simp at h
  | x :: gs, b :: l, 0, g, h, hl => by simp at h hl; subst h; subst hl; simp [keepGs, cnt]
  | x :: gs, b :: l, j + 1, g, h, hl => by
    have ih := keepGs_at f gs l j g (by simpa using h) (by simpa using hl)
    cases b <;> simp [keepGs, cnt] at * <;> exact ih
theorem cnt_take_lt {l : List Bool} {j : Nat} (h : l[j]? = some true) : cnt (l.take j) < cnt l := by
  have hj := (List.getElem?_eq_some_iff.1 h).1
  have e : cnt l = cnt (l.take j) + cnt (l.drop j) := by unfold cnt; rw [← List.countP_append, List.take_append_drop]
  have : l.drop j = true :: l.drop (j + 1) := by rw [List.drop_eq_getElem_cons hj]; congr 1; rw [List.getElem?_eq_getElem hj] at h; injection h
  rw [this] at e; simp [cnt] at e ⊢; omega
theorem cnt_take_surj : ∀ (l : List Bool) (i : Nat), i < cnt l → ∃ j, l[j]? = some true ∧ cnt (l.take j) = i
  | [], i, h => by simp [cnt] at h
  | b :: l, i, h => by
    cases b with
    | true =>
      cases i with
      | zero => exact ⟨0, by simp, by simp [cnt]⟩
      | succ i =>
        obtain ⟨j, h1, h2⟩ := cnt_take_surj l i (by simp [cnt] at h ⊢; omega)
        exact ⟨j + 1, by simpa using h1, by simp [cnt] at h2 ⊢; exact h2⟩
    | false =>
      obtain ⟨j, h1, h2⟩ := cnt_take_surj l i (by simpa [cnt] using h)
      exact ⟨j + 1, by simpa using h1, by simp [cnt] at h2 ⊢; exact h2⟩
theorem on_at {o : List Bool} {k : Int} (h : onI o k = true) : o[k.toNat]? = some true := by
  have := onI_lt h
  unfold onI at h; rw [List.getElem?_eq_getElem this] at h ⊢; simpa using h
theorem to_at {N : NetM} {k : Int} (h : onI (isM N) k = true) : valI (toM N) k = (cnt ((isM N).take k.toNat) : Nat) := by
  unfold valI toM
  rw [keptFrom_at _ _ _ _ (on_at h)]; simp
theorem is_len (N : NetM) : (isM N).length = N.gates.length := needsM_len _ _
theorem wanted_in {N : NetM} (h : NetOK N) : inR N.gates.length (N.outs ++ nextsM N) := fun k hk => by
  rcases List.mem_append.1 hk with e | e
  · exact h.outs k e
  · exact h.nexts k e
theorem is_least {N : NetM} (h : NetOK N) : Least N.gates (N.outs ++ nextsM N) (isM N) := needsM_least h.args (wanted_in h)
theorem drop_at {N : NetM} {k : Nat} {g : GateM} (hg : N.gates[k]? = some g) (hk : onI (isM N) k = true) : (dropN N).gates[cnt ((isM N).take k)]? = some (renG (toM N) g) :=
  keepGs_at _ _ _ _ _ hg (by have := on_at hk; simpa using this)
theorem drop_len (N : NetM) : (dropN N).gates.length = cnt (isM N) := keepGs_len _ _ _ (is_len N).symm
theorem drop_from {N : NetM} {i : Nat} {x : GateM} (h : (dropN N).gates[i]? = some x) : ∃ (k : Nat) (g : GateM), N.gates[k]? = some g ∧ onI (isM N) k = true ∧ cnt ((isM N).take k) = i ∧ x = renG (toM N) g := by
  have hi := (List.getElem?_eq_some_iff.1 h).1
  rw [drop_len] at hi
  obtain ⟨k, h1, h2⟩ := cnt_take_surj _ _ hi
  have hk := (List.getElem?_eq_some_iff.1 h1).1
  rw [is_len] at hk
  have hon : onI (isM N) k = true := by simp [onI, h1]
  have := drop_at (List.getElem?_eq_getElem hk) hon
  rw [h2, h] at this
  injection this with this
  exact ⟨k, _, List.getElem?_eq_getElem hk, hon, h2, this⟩
theorem kept_args {N : NetM} (h : NetOK N) {k : Nat} {g : GateM} (hg : N.gates[k]? = some g) (hk : onI (isM N) k = true) : ∀ a ∈ g.args, onI (isM N) a = true := fun a ha =>
  (is_least h).closed k (by omega) hk a (by simp [argsI, hg, ha])
/-! runs -/
end Go.Proofs.Ytlafiddfplhafaa
/- Gates of the call's own: a row of gates, each with a row of args of its own. -/
namespace Go.Proofs.Ytlafiddfplhafaa
set_option linter.unusedVariables false
set_option linter.unusedSimpArgs false
open Go.RowKit
def gateCs : List GateM → List Value → List Value
  | g :: gs, v :: vs => I g.kind :: I g.num :: v :: gateCs gs vs
  | _, _ => []
theorem gateCs_at : ∀ (gs : List GateM) (vs : List Value) (k : Nat) (g : GateM) (v : Value), gs[k]? = some g → vs[k]? = some v →
    (gateCs gs vs)[k * 3]? = some (I g.kind) ∧ (gateCs gs vs)[k * 3 + 1]? = some (I g.num) ∧ (gateCs gs vs)[k * 3 + 2]? = some v
  | [], vs, k, g, v, h, _ => by simp at h
  | g :: gs, [], k, g', v, _, h => by simp at h
  | g :: gs, v :: vs, 0, g', v', h, h' => by simp at h h'; subst h; subst h'; simp [gateCs]
  | g :: gs, v :: vs, k + 1, g', v', h, h' => by
    obtain ⟨h0, h1, h2⟩ := gateCs_at gs vs k g' v' (by simpa using h) (by simpa using h')
    have e : (k + 1) * 3 = k * 3 + 3 := by omega
    rw [e]
    exact ⟨by simpa [gateCs] using h0, by rw [show k * 3 + 3 + 1 = (k * 3 + 1) + 3 from by omega]; simpa [gateCs] using h1, by rw [show k * 3 + 3 + 2 = (k * 3 + 2) + 3 from by omega]; simpa [gateCs] using h2⟩
theorem gateCs_snoc : ∀ (gs : List GateM) (vs : List Value) (g : GateM) (v : Value), vs.length = gs.length → gateCs (gs ++ [g]) (vs ++ [v]) = gateCs gs vs ++ [I g.kind, I g.num, v]
  | [], [], g, v, _ => rfl
  | x :: gs, y :: vs, g, v, h => by simp only [List.cons_append, gateCs, gateCs_snoc gs vs g v (by simpa using h)]
  | [], v :: vs, _, _, h => by simp at h
  | g :: gs, [], _, _, h => by simp at h
/-- A row of gates of the call's own. -/
structure OwnG (w : World) (base : Nat) (s : Value) (gs : List GateM) (vs : List Value) : Prop where
  vl : vs.length = gs.length
  row : w.ownsRow base 95 3 s gs.length (gateCs gs vs)
  own : ∀ (k : Nat) v g, vs[k]? = some v → gs[k]? = some g → w.ownsRow base 3 1 v g.args.length (g.args.map I)
  apart : ∀ (j k : Nat) u v, j ≠ k → vs[j]? = some u → vs[k]? = some v → u.ownBlock = none ∨ u.ownBlock ≠ v.ownBlock
section
variable {w w' w0 : World} {base : Nat} {s : Value} {gs : List GateM} {vs : List Value}
theorem OwnG.nil (w : World) (base : Nat) : OwnG w base (.slice none 0 0) [] [] := ⟨rfl, World.ownsRow_nil _ _ _ _, fun k v g h => by simp at h, fun j k u v _ h => by simp at h⟩
theorem OwnG.ext (h : OwnG w base s gs vs) (hx : Ext w w') : OwnG w' base s gs vs := ⟨h.vl, own_ext h.row hx, fun k v g hv hg => own_ext (h.own k v g hv hg) hx, h.apart⟩
theorem OwnG.base_le {base' : Nat} (h : OwnG w base s gs vs) (hb : base' ≤ base) : OwnG w base' s gs vs := ⟨h.vl, own_base h.row hb, fun k v g hv hg => own_base (h.own k v g hv hg) hb, h.apart⟩
theorem OwnG.kept {row : Option Nat} (h : OwnG w base s gs vs) (hg : w.grownBy w' row) (hs : s.ownBlock = none ∨ s.ownBlock ≠ row) (hv : ∀ v ∈ vs, v.ownBlock = none ∨ v.ownBlock ≠ row) : OwnG w' base s gs vs :=
  ⟨h.vl, h.row.kept hg hs, fun k v g hk hgk => (h.own k v g hk hgk).kept hg (hv v (List.mem_of_getElem? hk)), h.apart⟩
/-- One gate more, whose args lie in memory that came later. -/
theorem OwnG.push (h : OwnG w0 base s gs vs) (hx : Ext w0 w) (hbase : base ≤ w0.heap.size) {s' v : Value} {g : GateM} (hv : w.ownsRow w0.heap.size 3 1 v g.args.length (g.args.map I))
    (hown : w'.ownsRow base 95 3 s' (gs.length + 1) (gateCs gs vs ++ [I g.kind, I g.num, v])) (hg : w.grownBy w' s.ownBlock) : OwnG w' base s' (gs ++ [g]) (vs ++ [v]) := by
  have hvl := h.vl
  have old : ∀ (k : Nat) u, vs[k]? = some u → u.ownBlock = none ∨ u.ownBlock ≠ v.ownBlock := fun k u hu => by
    have hk : k < gs.length := by have := (List.getElem?_eq_some_iff.1 hu).1; omega
    have h1 := h.own k u _ hu (List.getElem?_eq_getElem hk)
    cases hb : u.ownBlock with
    | none => exact .inl rfl
    | some b =>
      right; intro e
      have h2 := (h1.lt b hb).2
      have h3 := (hv.lt b e.symm).1
      omega
  refine ⟨by simp [hvl], ?_, fun k y z hy hz => ?_, fun j k u y hjk hu hy => ?_⟩
  · rw [gateCs_snoc gs vs g v hvl]; simpa using hown
  · by_cases hk : k < vs.length
    · rw [List.getElem?_append_left hk] at hy
      rw [List.getElem?_append_left (by omega)] at hz
      have h1 := own_ext (h.own k y z hy hz) hx
      exact h1.kept hg (own_types h1 (own_ext h.row hx) (by decide))
    · rw [List.getElem?_append_right (by omega)] at hy hz
      rw [← hvl] at hz
      cases hq : k - vs.length with
      | zero =>
        rw [hq] at hy hz
        simp at hy hz
        subst hy; subst hz
        exact (own_base hv hbase).kept hg (own_types hv (own_ext h.row hx) (by decide))
      | succ q => rw [hq] at hy; simp at hy
  · by_cases hj : j < vs.length
    · rw [List.getElem?_append_left hj] at hu
      by_cases hk : k < vs.length
      · rw [List.getElem?_append_left hk] at hy; exact h.apart j k u y hjk hu hy
      · rw [List.getElem?_append_right (by omega)] at hy
        cases hq : k - vs.length with
        | zero => rw [hq] at hy; simp at hy; subst hy; exact old j u hu
        | succ q => rw [hq] at hy; simp at hy
    · rw [List.getElem?_append_right (by omega)] at hu
      cases hq : j - vs.length with
      | zero =>
        rw [hq] at hu; simp at hu; subst hu
        by_cases hk : k < vs.length
        · rw [List.getElem?_append_left hk] at hy
          rcases old k y hy with e | e
          · cases hb : v.ownBlock with
            | none => exact .inl rfl
            | some b => right; rw [e]; exact fun q => by cases q
          · exact .inr (fun q => e q.symm)
        · rw [List.getElem?_append_right (by omega)] at hy
          cases hq2 : k - vs.length with
          | zero => omega
          | succ q => rw [hq2] at hy; simp at hy
      | succ q => rw [hq] at hu; simp at hu
theorem OwnG.slG (h : OwnG w base s gs vs) : ∃ A c, s = .slice A gs.length c ∧ gs.length ≤ c ∧ c ≤ maxLen ∧ SlG w A gs.length gs := by
  obtain ⟨A, c, rfl, h1, h2, hc⟩ := own_slice h.row
  refine ⟨A, c, rfl, h1, h2, rfl, fun k g hg => ?_⟩
  have hk : k < vs.length := by have := h.vl; have := (List.getElem?_eq_some_iff.1 hg).1; omega
  obtain ⟨e0, e1, e2⟩ := gateCs_at gs vs k g _ hg (List.getElem?_eq_getElem hk)
  obtain ⟨b, off, e, c0⟩ := hc _ _ e0
  obtain ⟨b', off', e', c1⟩ := hc _ _ e1
  rw [e] at e'; injection e' with e'; injection e' with q1 q2; subst q1; subst q2
  obtain ⟨b', off', e', c2⟩ := hc _ _ e2
  rw [e] at e'; injection e' with e'; injection e' with q1 q2; subst q1; subst q2
  obtain ⟨A', c', ev, g1, g2, hs⟩ := own_sl (h.own k _ g (List.getElem?_eq_getElem hk) hg)
  exact ⟨b, off, A', g.args.length, c', e, c0, c1, by rw [← Nat.add_assoc] at c2; rw [c2, ev], hs, g1, g2⟩
end
end Go.Proofs.Ytlafiddfplhafaa
/- A net of the call's own: what Fold and Drop hand back. -/
namespace Go.Proofs.Ytlafiddfplhafaa
set_option linter.unusedVariables false
set_option linter.unusedSimpArgs false
open Go.RowKit
theorem OwnG.box {w : World} {base b : Nat} {s : Value} {gs : List GateM} {vs : List Value} {cs : List Value} (h : OwnG w base s gs vs) (hb : Box w b 39 cs) (k : Nat) (u : Value) : OwnG (w.setCell ⟨b, k, none⟩ u) base s gs vs := by
  refine h.kept (grownBy_set w b k u) (.inr (hb.apart h.row (by decide))) fun v hv => .inr ?_
  obtain ⟨j, hj⟩ := List.mem_iff_getElem?.1 hv
  have hk : j < gs.length := by have := h.vl; have := (List.getElem?_eq_some_iff.1 hj).1; omega
  exact hb.apart (h.own j v _ hj (List.getElem?_eq_getElem hk)) (by decide)
structure NetO (w : World) (base : Nat) (i : Int) (GA : Option Addr) (gn gc : Nat) (RA : Option Addr) (rn rc : Nat) (OA : Option Addr) (on oc : Nat) (N : NetM) (vs : List Value) : Prop where
  ins : i = N.ins
  gl : N.gates.length = gn
  gates : OwnG w base (.slice GA gn gc) N.gates vs
  regs : w.ownsRow base 79 2 (.slice RA rn rc) rn (storeCs N.regs)
  outs : w.ownsRow base 3 1 (.slice OA on oc) on (N.outs.map I)
section
variable {w w' : World} {base : Nat} {i : Int} {GA : Option Addr} {gn gc : Nat} {RA : Option Addr} {rn rc : Nat} {OA : Option Addr} {on oc : Nat} {N : NetM} {vs : List Value}
theorem NetO.ext (h : NetO w base i GA gn gc RA rn rc OA on oc N vs) (hx : Ext w w') : NetO w' base i GA gn gc RA rn rc OA on oc N vs := ⟨h.ins, h.gl, h.gates.ext hx, own_ext h.regs hx, own_ext h.outs hx⟩
theorem NetO.base_le {base' : Nat} (h : NetO w base i GA gn gc RA rn rc OA on oc N vs) (hb : base' ≤ base) : NetO w base' i GA gn gc RA rn rc OA on oc N vs := ⟨h.ins, h.gl, h.gates.base_le hb, own_base h.regs hb, own_base h.outs hb⟩
theorem NetO.netC (h : NetO w base i GA gn gc RA rn rc OA on oc N vs) : NetC w i GA gn gc RA rn rc OA on oc N := by
  obtain ⟨A, c, e, g1, g2, hg⟩ := h.gates.slG
  injection e with e1 e2 e3
  subst e1; subst e3
  rw [h.gl] at g1 hg
  obtain ⟨A', c', e', r1, r2, -⟩ := own_slice h.regs
  injection e' with e1 _ e3; subst e1; subst e3
  obtain ⟨A', c', e', o1, o2, ho⟩ := own_sl h.outs
  injection e' with e1 _ e3; subst e1; subst e3
  exact ⟨h.ins, hg, slR_own h.regs, ho, ⟨g1, g2⟩, ⟨r1, r2⟩, ⟨o1, o2⟩⟩
end
def zeroN : NetM := ⟨0, [], [], []⟩
theorem NetO.zero (w : World) (base : Nat) : NetO w base 0 none 0 0 none 0 0 none 0 0 zeroN [] := ⟨rfl, rfl, OwnG.nil w base, World.ownsRow_nil _ _ _ _, World.ownsRow_nil _ _ _ _⟩
theorem take_snoc {α : Type} {l : List α} {k : Nat} {x : α} (h : l[k]? = some x) : l.take (k + 1) = l.take k ++ [x] := by rw [List.take_add_one, h]; rfl
end Go.Proofs.Ytlafiddfplhafaa
/- forge.Run, by the program: of a right program. -/
namespace Go.Proofs.Ytlafiddfplhafaa
set_option linter.unusedVariables false
set_option linter.unusedSimpArgs false
open Go.RowKit
theorem timesM_rangeF {l : List Int} {m : Nat} (h : timesM l m = 0) : l.length ≤ 60 ∧ ∀ x ∈ l, 0 ≤ x ∧ x < (2 ^ m : Nat) := by
  unfold timesM at h
  split at h
  · cases h
  rename_i h1
  cases hb : l.any (badTime m) with
  | true => rw [hb] at h; simp at h
  | false =>
    refine ⟨by omega, fun x hx => ?_⟩
    have := List.any_eq_false.1 hb x hx
    simp only [badTime, Bool.or_eq_true, decide_eq_true_eq, not_or] at this
    have hp : ((2 ^ m : Nat) : Int) = (2 : Int) ^ m := by rw [Int.natCast_pow]; rfl
    rw [hp]
    omega
theorem fresh_waits (p : List PNode) (n : Nat) : waitsOK p (freshM n).waits := fun j h => by
  simp only [freshM, List.getElem?_replicate] at h
  split at h <;> simp at h
theorem OwnRows.setB {w : World} {base b : Nat} {sv : Value} {rows : List (List Int)} {vs cs : List Value} (h : OwnRows 23 3 w base sv rows vs) (hb : Box w b 59 cs) (k : Nat) (u : Value) : OwnRows 23 3 (w.setCell ⟨b, k, none⟩ u) base sv rows vs :=
  ⟨own_set h.row (hb.apart h.row (by decide)) k u, fun i v r hv hr => own_set (h.own i v r hv hr) (hb.apart (h.own i v r hv hr) (by decide)) k u⟩
theorem Sl.grown {w w' : World} {row : Option Nat} {b off n : Nat} {cs : List Value} (h : Sl w (some ⟨b, off, none⟩) n cs) (hg : w.grownBy w' row) (hne : row ≠ some b) : Sl w' (some ⟨b, off, none⟩) n cs :=
  ⟨h.1, fun k u hu => by
    obtain ⟨b', off', e, hc⟩ := h.2 k u hu
    injection e with e; injection e with e1 e2
    subst e1; subst e2
    exact ⟨_, _, rfl, (hg.cell_far _ (lt_of_cell hc) (fun e => hne e.symm)).trans hc⟩⟩
theorem RestC.grown {w w' : World} {row : Option Nat} {fr : Bool} {g1 g2 wn wc on oc : Nat} {r : RestM} (h : RestC w fr (some ⟨g1, 0, none⟩) wn wc (some ⟨g2, 0, none⟩) on oc r) (hg : w.grownBy w' row) (h1 : row ≠ some g1) (h2 : row ≠ some g2) :
    RestC w' fr (some ⟨g1, 0, none⟩) wn wc (some ⟨g2, 0, none⟩) on oc r :=
  ⟨h.fresh, h.waits.grown hg h1, h.outs.grown hg h2, h.wl, h.ol⟩
theorem rows_app {t : Tr} {r : RestM} {rows all : List (List Int)} {l : List Int} {k : Nat} {x : Int} (h : rows ++ runsT t r (l.drop k) = all) (hx : l[k]? = some x) : (rows ++ [(turnR t r x).outs.map bI]) ++ runsT t (turnR t r x) (l.drop (k + 1)) = all := by
  rw [← h]
  obtain ⟨hk, rfl⟩ := List.getElem?_eq_some_iff.1 hx
  rw [List.drop_eq_getElem_cons hk, runsT, List.append_assoc]; rfl
set_option maxHeartbeats 8000000 in
set_option maxRecDepth 100000 in
theorem run_good (A : Option Addr) (n c : Nat) (t : Tr) (B : Option Addr) (m d : Nat) (l : List Int) (w : World) (h : SlN w A n t.flat) (ok : t.ok) (hg : ∀ x ∈ t.flat, goodN x) (hs : t.size ≤ 14) (hc : checkP t.flat = 0) (hl : Sl w B m (l.map I)) (hm : m ≤ 64) (hr : timesM l 3 = 0) :
    Calls Try.prog 7 #[.slice A n c, .slice B m d] w fun e w' => ∃ v vs, e = .returned (Pr v (I 0)) ∧ OwnRows 23 3 w' w.heap.size v (runsT t (freshM t.size) l) vs ∧ Ext w w' := by
  have hn : n = t.size := by rw [← flat_size, h.1]
  have hn14 : n ≤ 14 := by omega
  have hnm : n ≤ maxLen := Nat.le_trans hn14 (by unfold maxLen; omega)
  have hmm : m ≤ maxLen := Nat.le_trans hm (by unfold maxLen; omega)
  have H := Lib.hid h; have HQ := Lib.hid hc; have HN := Lib.hid hn; have HNM := Lib.hid hnm; have HMM := Lib.hid hmm; have HL := Lib.hid hl; have HY := Lib.hid hr; have HOK := Lib.hid ok; have HG := Lib.hid hg; have HS := Lib.hid hs; have HN14 := Lib.hid hn14; have HM := Lib.hid hm
  clear h hc hn hnm hmm hl hr ok hg hs hn14 hm
  go_enter Try.func7, Try.ntmps7
  go_wp2_with fail
  refine (progCheck_any _ n c _ w H.out HNM.out).mono ?_; rintro e w1 ⟨rfl, x1⟩; rw [HQ.out]
  have X1 := Lib.hid x1; clear x1
  go_wp2_with fail
  refine (times_any B m d l 3 w1 (HL.out.keep X1.out.keeps) HMM.out (by omega)).mono ?_; rintro e w2 ⟨rfl, x2⟩; rw [HY.out]
  have X2 := Lib.hid (X1.out.trans x2); clear x2
  go_wp2_with fail
  refine (fresh_any A n c w2 HN14.out).mono ?_; rintro e w3 ⟨g1, g2, rfl, h1, h2, h3, h4, h5, x3⟩
  have X3 := Lib.hid (X2.out.trans x3); have O1 := Lib.hid h4; have O2 := Lib.hid h5
  clear h1 h2 h3 h4 h5 x3
  go_wp2_with fail
  obtain ⟨w4, hw4⟩ : ∃ q, q = w3.alloc (.cells #[Bv true, .slice (some ⟨g1, 0, none⟩) n n, .slice (some ⟨g2, 0, none⟩) 3 3] 59) := ⟨_, rfl⟩
  have hx4 : Ext w3 w4 := by rw [hw4]; exact (Ext.refl _).alloc _
  have hb4 : Box w4 w3.heap.size 59 [Bv true, .slice (some ⟨g1, 0, none⟩) n n, .slice (some ⟨g2, 0, none⟩) 3 3] := by rw [hw4]; exact Box.new w3 _ _
  have hr4 : RestC w4 true (some ⟨g1, 0, none⟩) n n (some ⟨g2, 0, none⟩) 3 3 (freshM t.size) := by
    obtain ⟨A1, c1, e1, -, -, s1⟩ := own_sl (own_ext O1.out hx4)
    obtain ⟨A2, c2, e2, -, -, s2⟩ := own_sl (own_ext O2.out hx4)
    injection e1 with e1 _ _; subst e1
    injection e2 with e2 _ _; subst e2
    exact ⟨rfl, by rw [← HN.out]; exact s1, s2, ⟨Nat.le_refl _, HNM.out⟩, ⟨Nat.le_refl _, by unfold maxLen; omega⟩⟩
  have HX4 := Lib.hid (X3.out.trans hx4); have HB4 := Lib.hid hb4; have HR4 := Lib.hid hr4
  rw [← hw4]
  clear hw4 hx4 hb4 hr4
  go_loopw [30, 9] (fun j v9 wr => ∃ (k : Nat) (fr : Bool) (g1 g2 : Nat) (A9 : Option Addr) (c9 : Nat) (r : RestM) (rows : List (List Int)) (vs : List Value), k ≤ m ∧ j = .int .i64 k ∧ v9 = .slice A9 k c9 ∧ Ext w wr ∧ Box wr w3.heap.size 59 [Bv fr, .slice (some ⟨g1, 0, none⟩) n n, .slice (some ⟨g2, 0, none⟩) 3 3] ∧ RestC wr fr (some ⟨g1, 0, none⟩) n n (some ⟨g2, 0, none⟩) 3 3 r ∧ r.waits.length = t.size ∧ r.outs.length = 3 ∧ waitsOK t.flat r.waits ∧
    rows.length = k ∧ OwnRows 23 3 wr w.heap.size (.slice A9 k c9) rows vs ∧ rows ++ runsT t r (l.drop k) = runsT t (freshM t.size) l) (fun j _ _ => m - (intOf j).toNat)
  case atStart => exact ⟨0, true, g1, g2, none, 0, freshM t.size, [], [], Nat.zero_le _, rfl, rfl, HX4.out, HB4.out, HR4.out, by simp [freshM], by simp [freshM], fresh_waits _ _, rfl, OwnRows.nil _ _ _ _, by simp⟩
  case round =>
    obtain ⟨k, fr, q1, q2, A9, c9, r, rows, vs, hk, rfl, rfl, hext, hbx, hrc, hwl, hol, hwo, hrl, hown, hmod⟩ := hrel
    by_cases hlt : k < m
    · obtain ⟨vb, vo, x, rfl, hv0, hvx⟩ := HL.out.at_ hlt
      have hv1 := hext.keeps _ _ hv0
      have hx8 := (timesM_rangeF HY.out).2 x (List.mem_of_getElem? hvx)
      have hm64 : m ≤ 64 := HM.out
      have z0 := hbx.cell 0; have z1 := hbx.cell 1; have z2 := hbx.cell 2
      have fz := hbx.free
      simp only [List.getElem?_cons_zero, List.getElem?_cons_succ] at z0 z1 z2
      have T := Lib.hid (turn_any A n c t fr (some ⟨q1, 0, none⟩) n n (some ⟨q2, 0, none⟩) 3 3 r x wr (H.out.keep hext.keeps) HOK.out HG.out HS.out hrc hwl hol hwo hx8.1 (by simpa using hx8.2))
      have HEX := Lib.hid hext; have HBX := Lib.hid hbx; have HRL := Lib.hid hrl; have HOWN := Lib.hid hown; have HMOD := Lib.hid hmod; have HVX := Lib.hid hvx; have HWO := Lib.hid hwo
      clear hv0 hvx hx8 hext hbx hrc hwl hol hwo hrl hown hmod
      go_wp2_with fail
      refine T.out.mono ?_
      rintro e w5 ⟨p1, p2, rfl, hp1, hp2, hrc5, hx5⟩
      have hbl := HBX.out.lt
      have hb5 := HBX.out.ext hx5
      have HB5 := Lib.hid hb5; have HR5 := Lib.hid hrc5; have HX5 := Lib.hid (HEX.out.trans hx5); have HXX := Lib.hid hx5
      have y0 := hx5.keeps _ _ z0; have y1 := hx5.keeps _ _ z1; have y2 := hx5.keeps _ _ z2
      have f5 := hb5.free
      clear z0 z1 z2 fz T hb5 hrc5 hx5 hv1
      go_upto_region 13 with fail
      obtain ⟨w6, hw6⟩ : ∃ q, q = ((w5.setCell ⟨w3.heap.size, 0, none⟩ (Bv false)).setCell ⟨w3.heap.size, 1, none⟩ (.slice (some ⟨p1, 0, none⟩) n n)).setCell ⟨w3.heap.size, 2, none⟩ (.slice (some ⟨p2, 0, none⟩) 3 3) := ⟨_, rfl⟩
      have n1 : w3.heap.size ≠ p1 := by omega
      have n2 : w3.heap.size ≠ p2 := by omega
      have hr6 : RestC w6 false (some ⟨p1, 0, none⟩) n n (some ⟨p2, 0, none⟩) 3 3 (turnR t r x) := by rw [hw6]; exact ((HR5.out.far n1 n2 _).far n1 n2 _).far n1 n2 _
      have hb6 : Box w6 w3.heap.size 59 [Bv false, .slice (some ⟨p1, 0, none⟩) n n, .slice (some ⟨p2, 0, none⟩) 3 3] := by rw [hw6]; exact ((HB5.out.set 0 (Bv false)).set 1 (.slice (some ⟨p1, 0, none⟩) n n)).set 2 (.slice (some ⟨p2, 0, none⟩) 3 3)
      have hx6 : Ext w w6 := by
        have h3 := X3.out.size
        rw [hw6]; exact ((HX5.out.setCell (p := ⟨w3.heap.size, 0, none⟩) h3 _).setCell (p := ⟨w3.heap.size, 1, none⟩) h3 _).setCell (p := ⟨w3.heap.size, 2, none⟩) h3 _
      have ho6 : OwnRows 23 3 w6 w.heap.size (.slice A9 k c9) rows vs := by rw [hw6]; exact (((HOWN.out.ext HXX.out).setB HB5.out 0 (Bv false)).setB (HB5.out.set 0 (Bv false)) 1 (.slice (some ⟨p1, 0, none⟩) n n)).setB ((HB5.out.set 0 (Bv false)).set 1 (.slice (some ⟨p1, 0, none⟩) n n)) 2 (.slice (some ⟨p2, 0, none⟩) 3 3)
      have HOW6 := Lib.hid ho6
      have HP1 : Hid ((Value.slice A9 k c9).ownBlock ≠ some p1 ∧ (Value.slice A9 k c9).ownBlock ≠ some p2) := ⟨fun e => by have := (HOWN.out.row.lt p1 e).2; omega, fun e => by have := (HOWN.out.row.lt p2 e).2; omega⟩
      rw [← hw6]
      have HR6 := Lib.hid hr6; have HB6 := Lib.hid hb6; have HX6 := Lib.hid hx6
      clear y0 y1 y2 f5 hw6 n1 n2 hr6 hb6 hx6 hbl hp1 hp2 ho6
      obtain ⟨R, hR⟩ : ∃ R, R = turnR t r x := ⟨_, rfl⟩
      have hol6 : R.outs.length = 3 := by rw [hR]; exact (turn_len t r x).2
      have hr7 := HR6.out
      rw [← hR] at hr7
      have y2 := HB6.out.cell 2
      simp only [List.getElem?_cons_zero, List.getElem?_cons_succ] at y2
      have HRR := Lib.hid hR; have HO6 := Lib.hid hol6; have HR7 := Lib.hid hr7
      obtain ⟨inf, hti, htz, hts1, hts2⟩ := info_parts tab_int'
      have HTI := Lib.hid hti; have HTZ := Lib.hid htz; have HT1 := Lib.hid hts1; have HT2 := Lib.hid hts2
      clear hR hol6 hr7 hti htz hts1 hts2
      go_wp2_with fail
      clear y2
      go_loopw [44, 12] (fun j v12 wr => ∃ (i : Nat) (A12 : Option Addr) (c12 : Nat), i ≤ 3 ∧ j = .int .i64 i ∧ v12 = .slice A12 i c12 ∧ Ext w6 wr ∧ wr.ownsRow w6.heap.size 3 1 (.slice A12 i c12) i (((R.outs.take i).map bI).map I)) (fun j _ _ => 3 - (intOf j).toNat)
      case atStart => exact ⟨0, none, 0, Nat.zero_le _, rfl, rfl, Ext.refl _, World.ownsRow_nil _ _ _ _⟩
      case round =>
        obtain ⟨i, A12, c12, hi, rfl, rfl, hext6, hown6⟩ := hrel
        by_cases hi3 : i < 3
        · obtain ⟨vb2, vo2, y, hvb, hv2, hvy⟩ := (HR7.out.keep hext6.keeps).outs.at_ hi3
          injection hvb with hvb
          injection hvb with hvb1 hvb2 _
          subst hvb1; subst hvb2
          have HE6 := Lib.hid hext6; have HO12 := Lib.hid hown6; have HVY := Lib.hid hvy
          have hs6 : w6.heap.size ≤ wr.heap.size := hext6.size
          have HS6 := Lib.hid hs6
          clear hext6 hown6 hvy hs6
          cases y
          · have hv3 : wr.cell? ⟨p2, i, none⟩ = some (Bv false) := by rw [show i = 0 + i from by omega]; exact hv2
            clear hv2
            go_wp2_with (at_builtin; refine wpList_append_lies _ rfl (.tmp 49) (.tmp 51) 23 rfl w6.heap.size 3 inf _ 1 8 Try.underlying23 HTI.out HTZ.out HT1.out HT2.out rfl (by omega) (.slice A12 i c12) i (((R.outs.take i).map bI).map I) rfl (own_ext HO12.out ((Ext.refl wr).alloc (.cells #[I 0] 3))) ⟨wr.heap.size, 0, none⟩ 1 1 [I 0] rfl rfl (fun j u hu => by rw [add_zero, World.cell?_alloc_new]; simpa using hu) (by simp [Value.oneCell']) (by omega) (by unfold maxLen; omega) (by omega) (Nat.le_trans HS6.out (by simp)) _ rfl ?_; intro g6 cap6 w7 hown7 hgr7 hat7 hlt7; have HO7 := Lib.hid hown7; have HG7 := Lib.hid hgr7; clear hown7 hgr7 hat7 hlt7)
            have hx7 := (Ext.refl wr).alloc (.cells #[I 0] 3)
            have hE7 : Ext w6 w7 := by
              have hg := HG7.out
              have he := HE6.out.trans hx7
              exact ⟨hg.os.trans he.os, hg.tape.trans he.tape, hg.output.trans he.output, Nat.le_trans he.size hg.size, fun q hq => (hg.block q (Nat.lt_of_lt_of_le hq he.size) (fun e => by have := (HO12.out.lt q e.symm).1; omega)).trans (he.block q hq)⟩
            have HE7 := Lib.hid hE7
            clear hx7 hE7
            go_roundw
            case rel => exact ⟨i + 1, _, _, by omega, by go_num, rfl, HE7.out, by rw [take_snoc HVY.out]; simpa [bI] using HO7.out⟩
            case measure => simp [intOf]; omega
          · have hv3 : wr.cell? ⟨p2, i, none⟩ = some (Bv true) := by rw [show i = 0 + i from by omega]; exact hv2
            clear hv2
            go_wp2_with (at_builtin; refine wpList_append_lies _ rfl (.tmp 49) (.tmp 51) 23 rfl w6.heap.size 3 inf _ 1 8 Try.underlying23 HTI.out HTZ.out HT1.out HT2.out rfl (by omega) (.slice A12 i c12) i (((R.outs.take i).map bI).map I) rfl (own_ext HO12.out ((Ext.refl wr).alloc (.cells #[I 1] 3))) ⟨wr.heap.size, 0, none⟩ 1 1 [I 1] rfl rfl (fun j u hu => by rw [add_zero, World.cell?_alloc_new]; simpa using hu) (by simp [Value.oneCell']) (by omega) (by unfold maxLen; omega) (by omega) (Nat.le_trans HS6.out (by simp)) _ rfl ?_; intro g6 cap6 w7 hown7 hgr7 hat7 hlt7; have HO7 := Lib.hid hown7; have HG7 := Lib.hid hgr7; clear hown7 hgr7 hat7 hlt7)
            have hx7 := (Ext.refl wr).alloc (.cells #[I 1] 3)
            have hE7 : Ext w6 w7 := by
              have hg := HG7.out
              have he := HE6.out.trans hx7
              exact ⟨hg.os.trans he.os, hg.tape.trans he.tape, hg.output.trans he.output, Nat.le_trans he.size hg.size, fun q hq => (hg.block q (Nat.lt_of_lt_of_le hq he.size) (fun e => by have := (HO12.out.lt q e.symm).1; omega)).trans (he.block q hq)⟩
            have HE7 := Lib.hid hE7
            clear hx7 hE7
            go_roundw
            case rel => exact ⟨i + 1, _, _, by omega, by go_num, rfl, HE7.out, by rw [take_snoc HVY.out]; simpa [bI] using HO7.out⟩
            case measure => simp [intOf]; omega
        · have hi3' : i = 3 := by omega
          have htk : (R.outs.take i) = R.outs := List.take_of_length_le (by rw [HO6.out]; omega)
          rw [htk] at hown6
          subst hi3'
          have hxw := HX6.out.trans hext6
          have hr := own_base hown6 HX6.out.size
          have HRW := Lib.hid hr
          have HOW := Lib.hid (HOW6.out.ext hext6)
          have HB := Lib.hid (HB6.out.ext hext6)
          have HRC := Lib.hid (HR7.out.keep hext6.keeps)
          have HXW := Lib.hid hxw
          have hlr : rows.length = k := HRL.out
          have HLR := Lib.hid hlr
          have hm64 : m ≤ 64 := HM.out
          clear hext6 hown6 hr hxw htk hlr
          go_wp2_with (at_builtin; refine wpList_push rfl (.tmp 54) (.tmp 56) 24 23 rfl tab_ints Try.underlying24 rfl (by omega) w wr HXW.out (.slice A9 k c9) k vs rfl (by have := HOW.out.row; rw [HLR.out] at this; exact this) [.slice A12 3 c12] rfl rfl rfl (by simp [Value.oneCell']) (by unfold maxLen; omega) (by omega) ?_; intro v' w8 hown8 hx8 hg8)
          have HOWN8 := Lib.hid hown8; have HX8 := Lib.hid hx8; have HG8 := Lib.hid hg8
          clear hown8 hx8 hg8
          go_roundw
          case rel =>
            obtain ⟨g9, cap9, e9⟩ : ∃ g9 cap9, v' = .slice g9 (k + 1) cap9 := by
              obtain ⟨A, c, e, -⟩ := own_slice HOWN8.out
              exact ⟨A, c, e⟩
            subst e9
            refine ⟨k + 1, false, p1, p2, g9, cap9, R, rows ++ [R.outs.map bI], vs ++ [.slice A12 3 c12], by omega, by go_num, rfl, HX8.out, HB.out.kept HG8.out (HB.out.apart HOW.out.row (by decide)), HRC.out.grown HG8.out HP1.out.1 HP1.out.2, ?_, HO6.out, ?_, by simp [HLR.out], ?_, ?_⟩
            · rw [HRR.out]; exact (turn_len t r x).1
            · rw [HRR.out]; exact turn_waits x HOK.out HG.out HWO.out
            · refine HOW.out.push (by decide) (by rw [List.length_map, HO6.out]; exact HRW.out) (by rw [HLR.out]; exact HOWN8.out) HG8.out
            · rw [HRR.out]; exact rows_app HMOD.out HVX.out
          case measure => simp [intOf]; omega
    · have hkm : k = m := by omega
      subst hkm
      have hlen : l.length = k := by have := HL.out.len; simpa using this
      rw [List.drop_eq_nil_of_le (by omega)] at hmod
      have hrows : rows = runsT t (freshM t.size) l := by simpa [runsT] using hmod
      rw [hrows] at hown
      have HX := Lib.hid hext; have HOWN := Lib.hid hown
      clear hext hbx hrc hwl hol hwo hrl hown hmod hlen hrows
      go_wp2
      exact bodyPost_ret (v := Pr (.slice A9 k c9) (I 0)) (by simp [results, Try.results7, go_sem]) rfl ⟨_, vs, rfl, HOWN.out, HX.out⟩
end Go.Proofs.Ytlafiddfplhafaa
/- forge.Run: of whatever program and inputs. -/
namespace Go.Proofs.Ytlafiddfplhafaa
set_option linter.unusedVariables false
set_option linter.unusedSimpArgs false
open Go.RowKit
/-- What Run hands back beside its error. -/
def runRows (p : List PNode) (l : List Int) : List (List Int) := if runErr p l = 0 then runsT (treeOf p) (freshM (treeOf p).size) l else []
theorem runErr_ok {p : List PNode} {l : List Int} (h : runErr p l = 0) : checkP p = 0 ∧ timesM l 3 = 0 := by
  unfold runErr at h
  split at h
  · rename_i h0; exact ⟨h0, h⟩
  · rename_i h0; exact absurd h h0
theorem frun_any (A : Option Addr) (n c : Nat) (p : List PNode) (B : Option Addr) (m d : Nat) (l : List Int) (w : World) (h : SlN w A n p) (hn : n ≤ maxLen) (hl : Sl w B m (l.map I)) (hm : m ≤ maxLen) :
    Calls Try.prog 7 #[.slice A n c, .slice B m d] w fun e w' => ∃ v vs, e = .returned (Pr v (I (runErr p l))) ∧ OwnRows 23 3 w' w.heap.size v (runRows p l) vs ∧ Ext w w' := by
  by_cases h0 : runErr p l = 0
  · obtain ⟨h1, h2⟩ := runErr_ok h0
    obtain ⟨t1, t2, t3, t4⟩ := tree_of h1
    have hm64 : m ≤ 64 := by have := (timesM_rangeF h2).1; have := hl.len; omega
    rw [runRows, if_pos h0, h0]
    exact run_good A n c (treeOf p) B m d l w (by rw [← t2]; exact h) t1 t4 t3 (by rw [← t2]; exact h1) hl hm64 h2
  · refine (run_bad A n c p B m d l w h hn hl hm h0).mono ?_
    rintro e w' ⟨h1, h2⟩
    rw [runRows, if_neg h0]
    exact ⟨_, [], h1, OwnRows.nil _ _ _ _, h2⟩
end Go.Proofs.Ytlafiddfplhafaa
