/- Instants of nets, in plain Lean. No Go in sight. -/
import Derived.Test.YtjagbnaacfhokaaRc02
import Derived.Test.YtjagbnaacfhokaaChecked
import Derived.Test.YtjagbnaacfhokaaRc01
import Derived.Recover
namespace Go.Proofs.Ytjagbnaacfhokaa
set_option linter.unusedVariables false
set_option linter.unusedSimpArgs false

def pickM (v l : List Int) : List Int := l.map (valI v)
def turnN (N : NetM) (regs ins : List Int) : Option (List Int × List Int) :=
  if (settledM N.gates regs ins).contains 2 then none else some (pickM (settledM N.gates regs ins) N.outs, pickM (settledM N.gates regs ins) (nextsM N))
def bitsM (x : Int) : Nat → List Int
  | 0 => []
  | n + 1 => x % 2 :: bitsM (x / 2) n
def runFrom (N : NetM) : List Int → List Int → Option (List (List Int) × List Int)
  | r, [] => some ([], r)
  | r, x :: l => (turnN N r (bitsM x N.ins.toNat)).bind fun o => (runFrom N o.2 l).map fun q => (o.1 :: q.1, q.2)
def badTime (ins : Nat) (x : Int) : Bool := decide (x < 0) || decide (2 ^ ins ≤ x)
def timesM (l : List Int) (ins : Nat) : Int := if 60 < l.length then 2 else if l.any (badTime ins) then 3 else 0
def runE (N : NetM) (l : List Int) : Int :=
  if checkN N ≠ 0 then checkN N else if timesM l N.ins.toNat ≠ 0 then timesM l N.ins.toNat else if (runFrom N (firstM N) l).isNone then 6 else 0
def runV (N : NetM) (l : List Int) : List (List Int) × List Int := if runE N l = 0 then (runFrom N (firstM N) l).getD ([], []) else ([], [])
theorem runE_ok {N : NetM} {l : List Int} (h : runE N l = 0) : checkN N = 0 ∧ timesM l N.ins.toNat = 0 ∧ ∃ q, runFrom N (firstM N) l = some q := by
  unfold runE at h
  by_cases h1 : checkN N = 0
  · rw [if_neg (by simp [h1])] at h
    by_cases h2 : timesM l N.ins.toNat = 0
    · rw [if_neg (by simp [h2])] at h
      cases h3 : runFrom N (firstM N) l with
      | none => rw [h3] at h; simp at h
      | some q => exact ⟨h1, h2, q, rfl⟩
    · rw [if_pos h2] at h; exact absurd h h2
  · rw [if_pos h1] at h; exact absurd h h1
theorem runFrom_snoc (N : NetM) (x : Int) : ∀ (l r : List Int), runFrom N r (l ++ [x]) = (runFrom N r l).bind fun q => (turnN N q.2 (bitsM x N.ins.toNat)).map fun o => (q.1 ++ [o.1], o.2)
  | [], r => by
    simp only [List.nil_append, runFrom, Option.bind_some]
    cases turnN N r (bitsM x N.ins.toNat) <;> rfl
  | y :: l, r => by
    simp only [List.cons_append, runFrom]
    cases turnN N r (bitsM y N.ins.toNat) with
    | none => rfl
    | some o =>
      simp only [Option.bind_some]
      rw [runFrom_snoc N x l o.2]
      cases runFrom N o.2 l with
      | none => rfl
      | some q =>
        simp only [Option.bind_some, Option.map_some]
        cases turnN N q.2 (bitsM x N.ins.toNat) <;> rfl
theorem runFrom_len {N : NetM} : ∀ {l r : List Int} {q : List (List Int) × List Int}, runFrom N r l = some q → q.1.length = l.length
  | [], r, q, h => by simp [runFrom] at h; subst h; rfl
  | x :: l, r, q, h => by
    simp only [runFrom, Option.bind_eq_some_iff, Option.map_eq_some_iff] at h
    obtain ⟨o, _, q', h2, rfl⟩ := h
    simp [runFrom_len h2]
theorem bits_len (x : Int) (n : Nat) : (bitsM x n).length = n := by
  induction n generalizing x with
  | zero => rfl
  | succ n ih => simp [bitsM, ih]
theorem bits_good (x : Int) (n : Nat) : ∀ y ∈ bitsM x n, y = 0 ∨ y = 1 := by
  induction n generalizing x with
  | zero => simp [bitsM]
  | succ n ih =>
    intro y hy
    rcases List.mem_cons.1 hy with e | e
    · omega
    · exact ih _ y e
theorem bits_at (x : Int) : ∀ (n k : Nat), k < n → (bitsM x n)[k]? = some (x / 2 ^ k % 2)
  | 0, k, h => by omega
  | n + 1, 0, _ => by simp [bitsM]
  | n + 1, k + 1, h => by
    simp only [bitsM, List.getElem?_cons_succ]
    rw [bits_at (x / 2) n k (by omega), Int.ediv_ediv_of_nonneg (by decide), Int.pow_succ, Int.mul_comm]

/-! right nets -/
structure NetOK (N : NetM) : Prop where
  ins0 : 0 ≤ N.ins
  ins3 : N.ins ≤ 3
  gl : N.gates.length ≤ 200
  rl : N.regs.length ≤ 20
  ol : N.outs.length ≤ 3
  al : ∀ g ∈ N.gates, g.args.length ≤ 16
  named : ∀ k ∈ namedM N, 0 ≤ k ∧ k < N.gates.length
  kinds : ∀ g ∈ N.gates, 0 ≤ g.kind ∧ g.kind ≤ 6
  form : ∀ g ∈ N.gates, formM N g = true
theorem checkN_ok {N : NetM} (h : checkN N = 0) : NetOK N := by
  unfold checkN at h
  cases h1 : tooMany N with
  | true => rw [h1] at h; simp at h
  | false =>
  rw [h1, if_neg (by simp)] at h
  cases h2 : N.gates.any manyA with
  | true => rw [h2] at h; simp at h
  | false =>
  rw [h2, if_neg (by simp)] at h
  by_cases h3 : N.ins < 0
  · rw [if_pos h3] at h; cases h
  rw [if_neg h3] at h
  cases h4 : (namedM N).any (badPlace N.gates.length) with
  | true => rw [h4] at h; simp at h
  | false =>
  rw [h4, if_neg (by simp)] at h
  cases h5 : N.gates.any badGK with
  | true => rw [h5] at h; simp at h
  | false =>
  rw [h5, if_neg (by simp)] at h
  cases h6 : N.gates.all (formM N) with
  | false => rw [h6] at h; simp at h
  | true =>
  simp only [tooMany, Bool.or_eq_false_iff, decide_eq_false_iff_not] at h1
  refine ⟨by omega, by omega, by omega, by omega, by omega, fun g hg => ?_, fun k hk => ?_, fun g hg => ?_, fun g hg => List.all_eq_true.1 h6 g hg⟩
  · have := List.any_eq_false.1 h2 g hg; simp [manyA] at this; omega
  · have := List.any_eq_false.1 h4 k hk; simp [badPlace] at this; omega
  · have := List.any_eq_false.1 h5 g hg; simp [badGK] at this; omega
theorem NetOK.check {N : NetM} (h : NetOK N) : checkN N = 0 := by
  have h1 : tooMany N = false := by
    have := h.ins3; have := h.gl; have := h.rl; have := h.ol
    simp only [tooMany, Bool.or_eq_false_iff, decide_eq_false_iff_not]; omega
  have h2 : N.gates.any manyA = false := List.any_eq_false.2 fun g hg => by have := h.al g hg; simp [manyA]; omega
  have h3 : ¬ N.ins < 0 := by have := h.ins0; omega
  have h4 : (namedM N).any (badPlace N.gates.length) = false := List.any_eq_false.2 fun k hk => by have := h.named k hk; simp [badPlace]; omega
  have h5 : N.gates.any badGK = false := List.any_eq_false.2 fun g hg => by have := h.kinds g hg; simp [badGK]; omega
  have h6 : N.gates.all (formM N) = true := List.all_eq_true.2 h.form
  simp [checkN, h1, h2, h3, h4, h5, h6]
theorem NetOK.args {N : NetM} (h : NetOK N) : okArgs N.gates := fun g hg a ha => h.named a (by
  unfold namedM; rw [List.mem_append]; right; exact List.mem_flatMap.2 ⟨g, hg, ha⟩)
theorem NetOK.outs {N : NetM} (h : NetOK N) : inR N.gates.length N.outs := fun a ha => h.named a (by simp [namedM, ha])
theorem NetOK.nexts {N : NetM} (h : NetOK N) : inR N.gates.length (nextsM N) := fun a ha => h.named a (by
  unfold nextsM at ha; unfold namedM; simp only [List.mem_append]; exact .inl (.inr ha))
theorem first_good (N : NetM) : ∀ x ∈ firstM N, x = 0 ∨ x = 1 := fun x hx => by
  obtain ⟨r, _, rfl⟩ := List.mem_map.1 hx
  split <;> simp
theorem good01 {l : List Int} (h : ∀ x ∈ l, x = 0 ∨ x = 1) : goodL l ∧ (2 : Int) ∉ l :=
  ⟨fun x hx => by rcases h x hx with e | e <;> simp [e], fun hm => by rcases h 2 hm with e | e <;> cases e⟩
theorem turnN_good {N : NetM} {regs ins : List Int} {o : List Int × List Int} (hr : goodL regs) (hi : goodL ins) (h : turnN N regs ins = some o) : (∀ x ∈ o.1, x = 0 ∨ x = 1) ∧ ∀ x ∈ o.2, x = 0 ∨ x = 1 := by
  unfold turnN at h
  split at h
  · cases h
  · rename_i hc
    have hc : (2 : Int) ∉ settledM N.gates regs ins := by simpa using hc
    have hv := settled_good (gs := N.gates) hr hi
    have key : ∀ k, valI (settledM N.gates regs ins) k = 0 ∨ valI (settledM N.gates regs ins) k = 1 := fun k => by
      have := val_shut hc k
      rcases valI_good hv k with e | e | e
      · exact .inl e
      · exact .inr e
      · exact absurd e this
    injection h with h; subst h
    exact ⟨fun x hx => by obtain ⟨k, _, rfl⟩ := List.mem_map.1 hx; exact key k, fun x hx => by obtain ⟨k, _, rfl⟩ := List.mem_map.1 hx; exact key k⟩
theorem turnN_len {N : NetM} {regs ins : List Int} {o : List Int × List Int} (h : turnN N regs ins = some o) : o.1.length = N.outs.length ∧ o.2.length = N.regs.length := by
  unfold turnN at h
  split at h
  · cases h
  · injection h with h; subst h; simp [pickM, nextsM]
theorem runFrom_good {N : NetM} : ∀ {l r : List Int} {q : List (List Int) × List Int}, (∀ x ∈ r, x = 0 ∨ x = 1) → r.length = N.regs.length → runFrom N r l = some q →
    (∀ x ∈ q.2, x = 0 ∨ x = 1) ∧ q.2.length = N.regs.length ∧ ∀ row ∈ q.1, row.length = N.outs.length ∧ ∀ x ∈ row, x = 0 ∨ x = 1
  | [], r, q, hr, hl, h => by simp [runFrom] at h; subst h; exact ⟨hr, hl, by simp⟩
  | x :: l, r, q, hr, hl, h => by
    simp only [runFrom, Option.bind_eq_some_iff, Option.map_eq_some_iff] at h
    obtain ⟨o, h1, q', h2, rfl⟩ := h
    have g := turnN_good (good01 hr).1 (good01 (bits_good _ _)).1 h1
    have gl := turnN_len h1
    obtain ⟨k1, k2, k3⟩ := runFrom_good g.2 gl.2 h2
    refine ⟨k1, k2, fun row hrow => ?_⟩
    rcases List.mem_cons.1 hrow with e | e
    · rw [e]; exact ⟨gl.1, g.1⟩
    · exact k3 row e
end Go.Proofs.Ytjagbnaacfhokaa
/- Right gates; what Step and Solves tell, as one value. No program in sight. -/
namespace Go.Proofs.Ytjagbnaacfhokaa
set_option linter.unusedVariables false
set_option linter.unusedSimpArgs false

/-- A gate of a right net: gn gates, rn registers, jn inputs. -/
structure GateR (gn rn jn : Nat) (g : GateM) : Prop where
  kind : 0 ≤ g.kind ∧ g.kind ≤ 6
  args : ∀ a ∈ g.args, 0 ≤ a ∧ a < gn
  al : g.args.length ≤ 16
  inp : g.kind = 2 → 0 ≤ g.num ∧ g.num < jn
  reg : g.kind = 3 → 0 ≤ g.num ∧ g.num < rn
  one : g.kind = 6 → g.args.length = 1
  none : g.kind ≤ 3 → g.args.length = 0
theorem NetOK.gate {N : NetM} (ok : NetOK N) {g : GateM} (hg : g ∈ N.gates) : GateR N.gates.length N.regs.length N.ins.toNat g := by
  have hf := ok.form g hg
  have hk := ok.kinds g hg
  simp only [formM, Bool.and_eq_true, decide_eq_true_eq] at hf
  obtain ⟨⟨h1, h2⟩, h3⟩ := hf
  refine ⟨hk, fun a ha => ok.named a (List.mem_append_right _ (List.mem_flatMap.2 ⟨g, hg, ha⟩)), ok.al g hg, fun e => ?_, fun e => ?_, fun e => ?_, fun e => ?_⟩
  · rw [if_pos e] at h3; have := ok.ins0; omega
  · rw [if_neg (by omega), if_pos e] at h3; omega
  · rw [if_neg (by omega), if_pos e] at h1; simpa using h1
  · rw [if_neg (by omega), if_neg (by omega)] at h1; simpa using h1

def askedM (N : NetM) (regs ins : List Int) : Int :=
  if checkN N ≠ 0 then checkN N else if regs.length ≠ N.regs.length ∨ (ins.length : Int) ≠ N.ins then 1 else if regs.any bad3 then 3 else if ins.any bad3 then 3 else 0
def stepV (N : NetM) (regs ins : List Int) : List Int × Int := if askedM N regs ins ≠ 0 then ([], askedM N regs ins) else (settledM N.gates regs ins, 0)
def solvesV (N : NetM) (regs ins v : List Int) : Bool × Int :=
  if askedM N regs ins ≠ 0 then (false, askedM N regs ins) else if v.length ≠ N.gates.length then (false, 1) else if v.any bad3 then (false, 3) else (decide (nextV N.gates regs ins v = v), 0)
structure AskedOK (N : NetM) (regs ins : List Int) : Prop where
  net : NetOK N
  rl : regs.length = N.regs.length
  il : (ins.length : Int) = N.ins
  rg : goodL regs
  ig : goodL ins
theorem askedM_ok {N : NetM} {regs ins : List Int} (h : askedM N regs ins = 0) : AskedOK N regs ins := by
  unfold askedM at h
  by_cases h0 : checkN N = 0
  · rw [if_neg (by simp [h0])] at h
    split at h
    · cases h
    rename_i h1
    split at h
    · cases h
    rename_i h2
    split at h
    · cases h
    rename_i h3
    simp only [not_or, ne_eq, Decidable.not_not] at h1
    exact ⟨checkN_ok h0, h1.1, h1.2, goodL_of (by simpa using h2), goodL_of (by simpa using h3)⟩
  · rw [if_pos h0] at h; exact absurd h h0
theorem checkM_zero {l : List Int} (h : checkM l = 0) : goodL l := by
  unfold checkM at h
  cases hb : l.any bad3 with
  | true => rw [hb] at h; simp at h
  | false => exact goodL_of hb
theorem nextV_from {gs : List GateM} {regs ins v : List Int} : nextV gs regs ins v = v ↔ (gs.zip v).all (fun y => decide (worthM regs ins v y.1 = y.2)) = true ∧ v.length = gs.length := by
  unfold nextV
  constructor
  · intro h
    have hl : v.length = gs.length := by have := congrArg List.length h; simpa using this.symm
    refine ⟨?_, hl⟩
    rw [List.all_eq_true]
    intro y hy
    obtain ⟨k, hk, e⟩ := List.mem_iff_getElem.1 hy
    rw [List.getElem_zip] at e
    subst e
    simp only [List.length_zip] at hk
    have h2 : (gs.map (worthM regs ins v))[k]? = v[k]? := by rw [h]
    rw [List.getElem?_map, List.getElem?_eq_getElem (by omega), List.getElem?_eq_getElem (by omega)] at h2
    simp at h2
    simpa using h2
  · rintro ⟨h, hl⟩
    refine List.ext_getElem? fun k => ?_
    rcases Nat.lt_or_ge k gs.length with q | q
    · have hm : (gs[k], v[k]) ∈ gs.zip v := List.mem_iff_getElem.2 ⟨k, by simp; omega, by simp⟩
      have := List.all_eq_true.1 h _ hm
      simp only [decide_eq_true_eq] at this
      rw [List.getElem?_map, List.getElem?_eq_getElem q, List.getElem?_eq_getElem (by omega)]
      simp [this]
    · rw [List.getElem?_eq_none (by simpa using q), List.getElem?_eq_none (by omega)]
end Go.Proofs.Ytjagbnaacfhokaa
/- A row of rows of numbers, all of the call's own. No program in sight. -/
namespace Go.Proofs.Ytjagbnaacfhokaa
set_option linter.unusedVariables false
set_option linter.unusedSimpArgs false
open Go.RowKit

structure Rows2 (E T : TypeId) (w : World) (base g0 n : Nat) (U : List (List Int)) (vs : List Value) : Prop where
  row : w.ownsRow base E 1 (.slice (some ⟨g0, 0, none⟩) n n) n vs
  len : U.length = n
  own : ∀ (k : Nat) v u, vs[k]? = some v → U[k]? = some u → w.ownsRow base T 1 v u.length (u.map I)
  off : ∀ (k : Nat) v, vs[k]? = some v → v.ownBlock ≠ some g0
  apart : ∀ (j k : Nat) v v', vs[j]? = some v → vs[k]? = some v' → j ≠ k → v.ownBlock = none ∨ v.ownBlock ≠ v'.ownBlock
section
variable {E T : TypeId} {w w' : World} {base g0 n : Nat} {U : List (List Int)} {vs : List Value}
theorem Rows2.vl (h : Rows2 E T w base g0 n U vs) : vs.length = n := by have := h.row.1; omega
theorem Rows2.start (w : World) (hb : base ≤ w.heap.size) (hm : n ≤ maxLen) (g0 : Nat) (hg0 : g0 = w.heap.size) : Rows2 E T (w.alloc (.cells (zeros (.slice none 0 0) n) E)) base g0 n (List.replicate n []) (List.replicate n (.slice none 0 0)) := by
  subst hg0
  refine ⟨own_made w E _ n base hb hm, by simp, fun k v u hv hu => ?_, fun k v hv => ?_, fun j k v v' hv _ _ => ?_⟩
  · rw [List.getElem?_replicate] at hv hu
    split at hv
    · rename_i hk
      rw [if_pos hk] at hu
      injection hv with hv; injection hu with hu
      subst hv; subst hu
      exact World.ownsRow_nil _ _ _ _
    · cases hv
  · rw [List.getElem?_replicate] at hv
    split at hv
    · injection hv with hv; subst hv; simp [Value.ownBlock]
    · cases hv
  · rw [List.getElem?_replicate] at hv
    split at hv
    · injection hv with hv; subst hv; exact .inl rfl
    · cases hv
theorem Rows2.ext (h : Rows2 E T w base g0 n U vs) (hx : Ext w w') : Rows2 E T w' base g0 n U vs :=
  ⟨own_ext h.row hx, h.len, fun k v u hv hu => own_ext (h.own k v u hv hu) hx, h.off, h.apart⟩
theorem Rows2.base_le {base' : Nat} (h : Rows2 E T w base g0 n U vs) (hb : base' ≤ base) : Rows2 E T w base' g0 n U vs :=
  ⟨own_base h.row hb, h.len, fun k v u hv hu => own_base (h.own k v u hv hu) hb, h.off, h.apart⟩
theorem Rows2.get (h : Rows2 E T w base g0 n U vs) {k : Nat} (hk : k < n) : ∃ v u, vs[k]? = some v ∧ U[k]? = some u ∧ w.cell? ⟨g0, k, none⟩ = some v ∧ w.frozen? ⟨g0, k, none⟩ = false ∧ w.ownsRow base T 1 v u.length (u.map I) ∧ base ≤ g0 := by
  obtain ⟨⟨v, h1, h2⟩, h3, h4⟩ := own_at h.row hk
  have hlt : k < U.length := by rw [h.len]; exact hk
  have hu : U[k]? = some U[k] := List.getElem?_eq_getElem hlt
  exact ⟨v, _, h1, hu, h2, h3, h.own k v _ h1 hu, h4⟩
/-- One more number in one of the rows. -/
theorem Rows2.step (h : Rows2 E T w base g0 n U vs) {a : Nat} {v v' : Value} {u : List Int} {x : Int} (hv : vs[a]? = some v) (hu : U[a]? = some u)
    (hown : w'.ownsRow base T 1 v' (u.length + 1) (u.map I ++ [I x])) (hg : w.grownBy w' v.ownBlock) (hf : ∀ k, v'.ownBlock = some k → v.ownBlock = some k ∨ w.heap.size ≤ k) :
    Rows2 E T (w'.setCell ⟨g0, a, none⟩ v') base g0 n (U.modify a (· ++ [x])) (vs.set a v') := by
  have hal : a < vs.length := (List.getElem?_eq_some_iff.1 hv).1
  have hau : a < U.length := (List.getElem?_eq_some_iff.1 hu).1
  have hv' : v'.ownBlock ≠ some g0 := fun e => by
    rcases hf g0 e with q | q
    · exact h.off a v hv q
    · have := (h.row.lt g0 rfl).2; omega
  have hrow : w'.ownsRow base E 1 (.slice (some ⟨g0, 0, none⟩) n n) n vs := h.row.kept hg (.inr (fun e => h.off a v hv e.symm))
  refine ⟨(hrow.stored a v').1, by simp [h.len], fun k y z hy hz => ?_, fun k y hy => ?_, fun j k y y' hy hy' hne => ?_⟩
  · by_cases e : a = k
    · subst e
      rw [List.getElem?_set_self hal] at hy
      injection hy with hy; subst hy
      rw [List.getElem?_modify_eq, hu] at hz
      injection hz with hz; subst hz
      have := own_other (g := g0) (j := a) (u := v') hown hv'
      simpa using this
    · rw [List.getElem?_set_ne e] at hy
      rw [List.getElem?_modify] at hz; simp only [if_neg e] at hz; have hz : U[k]? = some z := by simpa using hz
      have h1 := h.own k y z hy hz
      have h2 := h1.kept hg (h.apart k a y v hy hv (fun q => e q.symm))
      exact own_other h2 (h.off k y hy)
  · by_cases e : a = k
    · subst e
      rw [List.getElem?_set_self hal] at hy
      injection hy with hy; subst hy; exact hv'
    · rw [List.getElem?_set_ne e] at hy; exact h.off k y hy
  · by_cases e : a = j
    · subst e
      rw [List.getElem?_set_self hal] at hy
      injection hy with hy; subst hy
      rw [List.getElem?_set_ne hne] at hy'
      cases hb : v'.ownBlock with
      | none => exact .inl rfl
      | some b =>
        right
        intro q
        rcases hf b hb with q2 | q2
        · rcases h.apart a k v y' hv hy' hne with q3 | q3
          · rw [q3] at q2; cases q2
          · exact q3 (q2.trans q)
        · cases hz : U[k]? with
          | none => have := (List.getElem?_eq_some_iff.1 hy').1; have := List.getElem?_eq_none_iff.1 hz; have := h.len; have := h.vl; omega
          | some z => have := ((h.own k y' z hy' hz).lt b q.symm).2; omega
    · rw [List.getElem?_set_ne e] at hy
      by_cases e2 : a = k
      · subst e2
        rw [List.getElem?_set_self hal] at hy'
        injection hy' with hy'; subst hy'
        cases hb : y.ownBlock with
        | none => exact .inl rfl
        | some b =>
          right
          intro q
          rcases hf b q.symm with q2 | q2
          · rcases h.apart j a y v hy hv hne with q3 | q3
            · rw [q3] at hb; cases hb
            · exact q3 (hb.trans q2.symm)
          · cases hz : U[j]? with
            | none => have := (List.getElem?_eq_some_iff.1 hy).1; have := List.getElem?_eq_none_iff.1 hz; have := h.len; have := h.vl; omega
            | some z => have := ((h.own j y z hy hz).lt b hb).2; omega
      · rw [List.getElem?_set_ne e2] at hy'
        exact h.apart j k y y' hy hy' hne
end
theorem len_le_total {U : List (List Int)} : ∀ {k : Nat} {u : List Int}, U[k]? = some u → u.length ≤ totalU U := by
  induction U with
  | nil => intro k u h; simp at h
  | cons x U ih =>
    intro k u h
    simp only [totalU, List.map_cons, List.sum_cons]
    cases k with
    | zero => simp at h; subst h; omega
    | succ k => have := ih (by simpa using h); simp only [totalU] at this; omega
end Go.Proofs.Ytjagbnaacfhokaa
/- The functions of three values (package tern, and the reference): each walked once. -/
namespace Go.Proofs.Ytjagbnaacfhokaa
set_option linter.unusedVariables false
set_option linter.unusedSimpArgs false
open Go.RowKit

theorem within_any (n lo hi : Int) (w : World) :
    Calls Try.prog 110 #[I n, I lo, I hi] w fun e w' => e = .returned (.bool (decide (lo ≤ n) && decide (n ≤ hi))) ∧ w = w' := by
  go_enter Try.func110, Try.ntmps110
  go_wp2
  all_goals go_ret
  all_goals exact ⟨ret_bool (by simp <;> omega), rfl⟩

theorem check1_any (n : Int) (w : World) :
    Calls Try.prog 119 #[I n] w fun e w' => e = .returned (.bool (bad3 n)) ∧ w = w' := by
  go_enter Try.func119, Try.ntmps119
  go_wp2
  all_goals go_ret
  all_goals exact ⟨ret_bool (by simp [bad3, *]), rfl⟩

/-! gather -/
theorem gather_any (A : Option Addr) (n c : Nat) (xs : List Int) (rules none : Int) (w : World) (h : Sl w A n (xs.map I)) (hn : n ≤ maxLen) :
    Calls Try.prog 135 #[.slice A n c, I rules, I none] w fun e w' => e = .returned (I (gatherM rules xs none)) ∧ w = w' := by
  unfold maxLen at hn
  have H := Lib.hid h; clear h
  go_enter Try.func135, Try.ntmps135
  go_wp2
  go_loop [7, 13] (fun o i => ∃ (k : Nat) (out : Int), k ≤ n ∧ i = .int .i64 k ∧ o = .int .i64 out ∧ gatherM rules (xs.drop k) out = gatherM rules xs none) (fun _ i => n - (intOf i).toNat)
  case atStart => exact ⟨0, none, Nat.zero_le _, rfl, rfl, rfl⟩
  case round =>
    obtain ⟨k, out, hk, rfl, rfl, hM⟩ := hrel
    by_cases hlt : k < n
    · obtain ⟨b, off, x, rfl, hc, hd⟩ := H.out.next hlt
      rw [hd, gatherM] at hM
      have HM := Lib.hid hM; clear hM hd
      go_wp2
      · have hx : (x == rules) = true := by assumption
        go_ret; exact ⟨ret_int (by rw [← HM.out, if_pos (by simpa using hx)]), rfl⟩
      all_goals
        rename_i h1 h2
        have hx : ¬ x = rules := by simpa using h1
        go_round
        case rel => exact ⟨k + 1, _, by omega, by go_num, rfl, by rw [← HM.out, if_neg hx]; simp_all⟩
        case measure => simp [intOf]; omega
    · rw [H.out.drop_end hlt] at hM
      have HM := Lib.hid hM; clear hM
      go_wp2
      go_ret; exact ⟨ret_int HM.out, rfl⟩

/-! IndexFunc, ContainsFunc, Check -/
/-- What a function value answers of one number, in world w, nothing turned. -/
def Asks (P : Program) (g : FuncId) (caps : Array Value) (w : World) (q : Int → Bool) : Prop :=
  (∀ args W, (callFunc g args).run P W = .ok (.enter g args) W) ∧ ∀ x, Calls P g (#[I x] ++ caps) w fun e w' => e = .returned (.bool (q x)) ∧ w = w'

theorem indexFunc_any (A : Option Addr) (n c : Nat) (xs : List Int) (g : FuncId) (caps : Array Value) (q : Int → Bool) (w : World) (h : Sl w A n (xs.map I)) (hn : n ≤ maxLen) (hq : Asks Try.prog g caps w q) :
    Calls Try.prog 116 #[.slice A n c, .func (.func g) #[] caps] w fun e w' => e = .returned (I (indexM q xs 0)) ∧ w = w' := by
  unfold maxLen at hn
  have H := Lib.hid h; clear h
  have HQ := Lib.hid hq; clear hq
  go_enter Try.func116, Try.ntmps116
  go_wp2
  go_loop [8] (fun i => ∃ (k : Nat), k ≤ n ∧ i = .int .i64 k ∧ indexM q (xs.drop k) k = indexM q xs 0) (fun i => n - (intOf i).toNat)
  case atStart => exact ⟨0, Nat.zero_le _, rfl, rfl⟩
  case round =>
    obtain ⟨k, hk, rfl, hM⟩ := hrel
    by_cases hlt : k < n
    · obtain ⟨b, off, x, rfl, hc, hd⟩ := H.out.next hlt
      rw [hd, indexM] at hM
      have HM := Lib.hid hM; clear hM hd
      have hcf := HQ.out.1
      by_cases hqx : q x = true
      all_goals
        go_wp2_with (refine (HQ.out.2 x).mono ?_; rintro e w' ⟨rfl, rfl⟩)
      · go_ret; exact ⟨ret_int (by rw [← HM.out, if_pos hqx]), rfl⟩
      · go_round
        case rel => exact ⟨k + 1, by omega, by go_num, by rw [← HM.out, if_neg hqx]; simp⟩
        case measure => simp [intOf]; omega
    · rw [H.out.drop_end hlt, indexM] at hM
      have HM := Lib.hid hM; clear hM
      go_wp2
      go_ret; exact ⟨ret_int HM.out, rfl⟩

theorem enter_check1 : ∀ args W, (callFunc 119 args).run Try.prog W = .ok (.enter 119 args) W := by
  intro args W
  go_simp
theorem asks_check1 (w : World) : Asks Try.prog 119 #[] w bad3 := ⟨enter_check1, fun x => check1_any x w⟩

theorem containsFunc_any (A : Option Addr) (n c : Nat) (xs : List Int) (g : FuncId) (caps : Array Value) (q : Int → Bool) (w : World) (h : Sl w A n (xs.map I)) (hn : n ≤ maxLen) (hq : Asks Try.prog g caps w q) :
    Calls Try.prog 70 #[.slice A n c, .func (.func g) #[] caps] w fun e w' => e = .returned (.bool (xs.any q)) ∧ w = w' := by
  have H := Lib.hid h; clear h
  have HQ := Lib.hid hq; clear hq
  have HM := Lib.hid (indexM_lo q xs 0 (Int.le_refl _))
  go_enter Try.func70, Try.ntmps70
  go_wp2_with (go_at_call 116; refine (indexFunc_any A n c xs g caps q w H.out hn HQ.out).mono ?_; rintro e w' ⟨rfl, rfl⟩)
  go_ret; exact ⟨ret_bool HM.out, rfl⟩

theorem ternCheck_any (A : Option Addr) (n c : Nat) (xs : List Int) (w : World) (h : Sl w A n (xs.map I)) (hn : n ≤ maxLen) :
    Calls Try.prog 79 #[.slice A n c] w fun e w' => e = .returned (I (checkM xs)) ∧ w = w' := by
  have H := Lib.hid h; clear h
  by_cases hb : xs.any bad3 = true
  · have HM : Hid (checkM xs = 3) := by unfold Hid; simp [checkM, hb]
    have HB := Lib.hid hb; clear hb
    go_enter Try.func79, Try.ntmps79
    go_wp2_with (go_at_call 70; refine (containsFunc_any A n c xs _ _ bad3 w H.out hn (asks_check1 w)).mono ?_; rintro e w' ⟨rfl, rfl⟩; rw [HB.out])
    go_ret; exact ⟨ret_int HM.out.symm, rfl⟩
  · have hb : xs.any bad3 = false := by simpa using hb
    have HM : Hid (checkM xs = 0) := by unfold Hid; simp only [checkM, hb]; rfl
    have HB := Lib.hid hb; clear hb
    go_enter Try.func79, Try.ntmps79
    go_wp2_with (go_at_call 70; refine (containsFunc_any A n c xs _ _ bad3 w H.out hn (asks_check1 w)).mono ?_; rintro e w' ⟨rfl, rfl⟩; rw [HB.out])
    go_ret; exact ⟨ret_int HM.out.symm, rfl⟩

theorem ofAll_any (A : Option Addr) (n c : Nat) (xs : List Int) (w : World) (h : Sl w A n (xs.map I)) (hn : n ≤ maxLen) :
    Calls Try.prog 120 #[I 4, .slice A n c] w fun e w' => e = .returned (I (ofM 4 xs)) ∧ w = w' := by
  have H := Lib.hid h; clear h
  go_enter Try.func120, Try.ntmps120
  go_wp2_with (go_at_call 135; refine (gather_any A n c xs _ _ w H.out hn).mono ?_; rintro e w' ⟨rfl, rfl⟩)
  go_ret; exact ⟨rfl, rfl⟩
theorem ofAny_any (A : Option Addr) (n c : Nat) (xs : List Int) (w : World) (h : Sl w A n (xs.map I)) (hn : n ≤ maxLen) :
    Calls Try.prog 120 #[I 5, .slice A n c] w fun e w' => e = .returned (I (ofM 5 xs)) ∧ w = w' := by
  have H := Lib.hid h; clear h
  go_enter Try.func120, Try.ntmps120
  go_wp2_with (go_at_call 135; refine (gather_any A n c xs _ _ w H.out hn).mono ?_; rintro e w' ⟨rfl, rfl⟩)
  go_ret; exact ⟨rfl, rfl⟩
theorem ofNot_any (A : Option Addr) (n c : Nat) (x : Int) (xs : List Int) (w : World) (h : Sl w A n ((x :: xs).map I)) (hn : n ≤ maxLen) (hx : bad3 x = false) :
    Calls Try.prog 120 #[I 6, .slice A n c] w fun e w' => e = .returned (I (ofM 6 (x :: xs))) ∧ w = w' := by
  have hlen : 0 < n := by have := h.len; simp at this; omega
  obtain ⟨b, off, y, rfl, hc, hy⟩ := h.at_ hlen
  simp at hy; subst hy
  have hc0 : w.cell? ⟨b, off, none⟩ = some (I x) := hc
  have H := Lib.hid h; clear h hc
  have hx3 : x = 0 ∨ x = 1 ∨ x = 2 := by simp [bad3] at hx; omega
  clear hx
  have i0 : ∀ w, (Instr.index 151 (.agg #[.int .i64 1, .int .i64 0, .int .i64 2]) (.int .i64 0)).run Try.prog w = .ok (.int .i64 1) w := fun _ => by kernel_rfl
  have i1 : ∀ w, (Instr.index 151 (.agg #[.int .i64 1, .int .i64 0, .int .i64 2]) (.int .i64 1)).run Try.prog w = .ok (.int .i64 0) w := fun _ => by kernel_rfl
  have i2 : ∀ w, (Instr.index 151 (.agg #[.int .i64 1, .int .i64 0, .int .i64 2]) (.int .i64 2)).run Try.prog w = .ok (.int .i64 2) w := fun _ => by kernel_rfl
  rcases hx3 with rfl | rfl | rfl
  all_goals
    go_enter Try.func120, Try.ntmps120
    go_wp2
    go_ret; exact ⟨rfl, rfl⟩

/-! the reference -/
theorem values_any (A : Option Addr) (n c : Nat) (xs : List Int) (w : World) (h : Sl w A n (xs.map I)) (hn : n ≤ maxLen) :
    Calls Try.prog 81 #[.slice A n c] w fun e w' => e = .returned (.bool (valuesM xs)) ∧ w = w' := by
  unfold maxLen at hn
  have H := Lib.hid h; clear h
  go_enter Try.func81, Try.ntmps81
  go_wp2
  go_loop [3] (fun i => ∃ (k : Nat), k ≤ n ∧ i = .int .i64 k ∧ valuesM (xs.drop k) = valuesM xs) (fun i => n - (intOf i).toNat)
  case atStart => exact ⟨0, Nat.zero_le _, rfl, rfl⟩
  case round =>
    obtain ⟨k, hk, rfl, hM⟩ := hrel
    by_cases hlt : k < n
    · obtain ⟨b, off, x, rfl, hc, hd⟩ := H.out.next hlt
      rw [hd, valuesM, List.all_cons] at hM
      have HM := Lib.hid hM; clear hM hd
      by_cases hx : (decide (0 ≤ x) && decide (x ≤ 2)) = true
      · have HX := Lib.hid hx; clear hx
        go_wp2_with (go_at_call 110; refine (within_any _ _ _ _).mono ?_; rintro e w' ⟨rfl, rfl⟩; rw [HX.out])
        go_round
        case rel => exact ⟨k + 1, by omega, by go_num, by rw [← HM.out, HX.out]; simp [valuesM]⟩
        case measure => simp [intOf]; omega
      · have hx : (decide (0 ≤ x) && decide (x ≤ 2)) = false := by simpa using hx
        have HX := Lib.hid hx; clear hx
        go_wp2_with (go_at_call 110; refine (within_any _ _ _ _).mono ?_; rintro e w' ⟨rfl, rfl⟩; rw [HX.out])
        go_ret; exact ⟨ret_bool (by rw [← HM.out, HX.out]; rfl), rfl⟩
    · rw [H.out.drop_end hlt] at hM
      have HM := Lib.hid hM; clear hM
      go_wp2
      go_ret; exact ⟨ret_bool HM.out, rfl⟩

theorem count_any (A : Option Addr) (n c : Nat) (xs : List Int) (v : Int) (w : World) (h : Sl w A n (xs.map I)) (hn : n ≤ maxLen) :
    Calls Try.prog 95 #[.slice A n c, I v] w fun e w' => e = .returned (I (countM v xs 0)) ∧ w = w' := by
  unfold maxLen at hn
  have H := Lib.hid h; clear h
  go_enter Try.func95, Try.ntmps95
  go_wp2
  go_loop [5, 6] (fun o i => ∃ (k : Nat) (m : Int), k ≤ n ∧ i = .int .i64 k ∧ o = .int .i64 m ∧ 0 ≤ m ∧ m ≤ k ∧ countM v (xs.drop k) m = countM v xs 0) (fun _ i => n - (intOf i).toNat)
  case atStart => exact ⟨0, 0, Nat.zero_le _, rfl, rfl, by omega, by omega, rfl⟩
  case round =>
    obtain ⟨k, m, hk, rfl, rfl, hm0, hm1, hM⟩ := hrel
    by_cases hlt : k < n
    · obtain ⟨b, off, x, rfl, hc, hd⟩ := H.out.next hlt
      rw [hd, countM] at hM
      have HM := Lib.hid hM; clear hM hd
      go_wp2
      all_goals
        go_round
        case rel => exact ⟨k + 1, _, by omega, by go_num, rfl, by omega, by omega, by rw [← HM.out]; simp_all⟩
        case measure => simp [intOf]; omega
    · rw [H.out.drop_end hlt] at hM
      have HM := Lib.hid hM; clear hM
      go_wp2
      go_ret; exact ⟨ret_int HM.out, rfl⟩

theorem refAll_any (A : Option Addr) (n c : Nat) (xs : List Int) (w : World) (h : Sl w A n (xs.map I)) (hn : n ≤ maxLen) :
    Calls Try.prog 132 #[.slice A n c] w fun e w' => e = .returned (I (allM xs)) ∧ w = w' := by
  have H := Lib.hid h; clear h
  generalize hM : allM xs = M
  unfold allM at hM
  generalize ha : countM 0 xs 0 = a at hM
  generalize hb : countM 2 xs 0 = b at hM
  have HA := Lib.hid ha; have HB := Lib.hid hb; have HM := Lib.hid hM; clear ha hb hM
  by_cases h1 : 0 < a <;> by_cases h2 : 0 < b
  all_goals
    go_enter Try.func132, Try.ntmps132
    go_wp2_with (go_at_call 95; refine (count_any A n c xs _ w H.out hn).mono ?_; rintro e w' ⟨rfl, rfl⟩; first | rw [HA.out] | rw [HB.out])
    go_ret; exact ⟨ret_int (by rw [← HM.out]; (repeat' split) <;> omega), rfl⟩
theorem refAny_any (A : Option Addr) (n c : Nat) (xs : List Int) (w : World) (h : Sl w A n (xs.map I)) (hn : n ≤ maxLen) :
    Calls Try.prog 133 #[.slice A n c] w fun e w' => e = .returned (I (anyM xs)) ∧ w = w' := by
  have H := Lib.hid h; clear h
  generalize hM : anyM xs = M
  unfold anyM at hM
  generalize ha : countM 1 xs 0 = a at hM
  generalize hb : countM 2 xs 0 = b at hM
  have HA := Lib.hid ha; have HB := Lib.hid hb; have HM := Lib.hid hM; clear ha hb hM
  by_cases h1 : 0 < a <;> by_cases h2 : 0 < b
  all_goals
    go_enter Try.func133, Try.ntmps133
    go_wp2_with (go_at_call 95; refine (count_any A n c xs _ w H.out hn).mono ?_; rintro e w' ⟨rfl, rfl⟩; first | rw [HA.out] | rw [HB.out])
    go_ret; exact ⟨ret_int (by rw [← HM.out]; (repeat' split) <;> omega), rfl⟩

theorem refNot_any (v : Int) (w : World) (h0 : 0 ≤ v) (h1 : v ≤ 2) :
    Calls Try.prog 134 #[I v] w fun e w' => e = .returned (I (rnotM v)) ∧ w = w' := by
  have hv : v = 0 ∨ v = 1 ∨ v = 2 := by omega
  rcases hv with rfl | rfl | rfl
  all_goals
    go_enter Try.func134, Try.ntmps134
    go_wp2
    go_ret; exact ⟨rfl, rfl⟩

end Go.Proofs.Ytjagbnaacfhokaa
/- net.Check's deferred closure walked. -/
namespace Go.Proofs.Ytjagbnaacfhokaa
set_option linter.unusedVariables false
set_option linter.unusedSimpArgs false
open Go.RowKit

theorem wpS_of_wp' {P : Program} {c : Code} {Q : Exit → Act → List Frame → World → Prop} {a : Act} {cs : List Frame} {w : World} (h : ∀ Q' : Exit → Act → World → Prop, (∀ e a' w', Q e a' cs w' → Q' e a' w') → c.wp P Q' a w) : c.wpS P Q a cs w :=
  wpS_of_wp (h _ fun _ _ _ h => h)

theorem assert_hit (v : Value) (w : World) : (Instr.typeAssert (.iface 127 v) 20 127 true).run Try.prog w = .ok (.tuple #[v, .bool true]) w := by
  simp [Instr.typeAssert, run_underlying Try.underlying127]
theorem assert_nil (w : World) : (Instr.typeAssert .nilIface 20 127 true).run Try.prog w = .ok (.tuple #[.agg #[.int .i64 0], .bool false]) w := by
  kernel_rfl

/-- The deferred closure, where something was thrown. -/
theorem catch_thrown (p : Addr) (e0 e : Int) (older : List PanicEntry) (w : World) (hc : w.cell? p = some (I e0)) (hz : w.frozen? p = false) (hp : p.block < w.heap.size) :
    CallsD Try.prog 112 #[.pointer (some p)] (.panicking ({ v := .iface 127 (.agg #[I e]), recovered := false } :: older)) w fun en u' w' =>
      en = .returned (.tuple #[]) ∧ u' = .panicking ({ v := .iface 127 (.agg #[I e]), recovered := true } :: older) ∧ w' = (w.alloc (.cells #[I e] 127)).setCell p (I e) := by
  have hc2 : ∀ o, (w.alloc o).cell? p = some (I e0) := fun o => (World.cell?_alloc_lt w o p hp).trans hc
  have hz2 : ∀ o, (w.alloc o).frozen? p = false := fun o => ((Below.alloc (Below.refl w.heap.size w) (Nat.le_refl _) o).frozen hp).trans hz
  have hta := assert_hit
  refine callsD_of_wpS Try.func112 rfl fun c₀ cs hu => ?_
  simp only [Try.ntmps112, List.size_toArray, List.length_cons, List.length_nil, Nat.reduceAdd, Nat.reduceSub, Array.replicate_succ, Array.replicate_zero, List.push_toArray, List.append_toArray, List.nil_append, List.cons_append]
  apply wpS_seq
  apply wpS_region
  simp [wpOpsS, go_sem, recoverD, hu, Exit.thenS]
  refine wpS_of_wp' fun Q hQ => ?_
  have HU := Lib.hid hu; clear hu
  go_wp2
  simp [bodyPostS, results, Try.results112]
theorem catch_idle (p : Addr) (w : World) :
    CallsD Try.prog 112 #[.pointer (some p)] .returning w fun e u' w' => e = .returned (.tuple #[]) ∧ u' = .returning ∧ w' = w.alloc (.cells #[I 0] 127) := by
  have hta := assert_nil
  refine callsD_of_wpS Try.func112 rfl fun c₀ cs hu => ?_
  simp only [Try.ntmps112, List.size_toArray, List.length_cons, List.length_nil, Nat.reduceAdd, Nat.reduceSub, Array.replicate_succ, Array.replicate_zero, List.push_toArray, List.append_toArray, List.nil_append, List.cons_append]
  apply wpS_seq
  apply wpS_region
  simp [wpOpsS, go_sem, recoverD, hu, Exit.thenS]
  refine wpS_of_wp' fun Q hQ => ?_
  have HU := Lib.hid hu; clear hu
  go_wp2
  have hu := HU.out
  cases c₀
  simp_all [bodyPostS, results, Try.results112]

/-- Check's door, behind a panic: what was thrown is handed back. -/
theorem door_panic (tmps : Array Value) (p : Addr) (e0 e : Int) (R : Ending → World → Prop) (w : World) (hc : w.cell? p = some (I e0)) (hz : w.frozen? p = false) (h2 : tmps.getD 2 undef = .pointer (some p))
    (hR : R (.returned (I e)) ((w.alloc (.cells #[I e] 127)).setCell p (I e))) :
    bodyPostD Try.prog Try.f66 R (Exit.panic [thrown e]) { tmps := tmps, defers := [{ target := .fn (.func 112) #[.pointer (some p)], args := #[] }] } w := by
  have hp := lt_of_cell hc
  have hc3 : ((w.alloc (.cells #[I e] 127)).setCell p (I e)).cell? p = some (I e) :=
    World.cell?_setCell_same _ _ _ ((World.cell?_alloc_lt w _ p hp).trans hc)
  refine leaves_cons (f := 112) (args := #[.pointer (some p)]) (by simp) (by simp [go_sem]) ?_
  refine (catch_thrown p e0 e [] _ hc hz hp).mono ?_
  rintro en u' w'' ⟨rfl, rfl, rfl⟩
  generalize (w.alloc (.cells #[I e] 127)).setCell p (I e) = W at hR hc3
  have h3 : tmps[2]?.getD undef = .pointer (some p) := by simpa using h2
  simp [Leaves, settle, results, Try.results66, go_sem, h2, h3, hc3, hR]
/-- Check's door, where nothing was thrown. -/
theorem door_ok (ex : Exit) (hex : ex = .ret ∨ ex = .normal) (tmps : Array Value) (p : Addr) (e : Int) (R : Ending → World → Prop) (w : World) (hc : w.cell? p = some (I e)) (h2 : tmps.getD 2 undef = .pointer (some p))
    (hR : R (.returned (I e)) (w.alloc (.cells #[I 0] 127))) :
    bodyPostD Try.prog Try.f66 R ex { tmps := tmps, defers := [{ target := .fn (.func 112) #[.pointer (some p)], args := #[] }] } w := by
  have hp := lt_of_cell hc
  have hc3 : (w.alloc (.cells #[I 0] 127)).cell? p = some (I e) := (World.cell?_alloc_lt w _ p hp).trans hc
  have h3 : tmps[2]?.getD undef = .pointer (some p) := by simpa using h2
  rcases hex with rfl | rfl
  all_goals
    refine leaves_cons (f := 112) (args := #[.pointer (some p)]) (by simp) (by simp [go_sem]) ?_
    refine (catch_idle p _).mono ?_
    rintro en u' w'' ⟨rfl, rfl, rfl⟩
    generalize w.alloc (.cells #[I 0] 127) = W at hR hc3
    simp [Leaves, settle, results, Try.results66, go_sem, h2, h3, hc3, hR]
end Go.Proofs.Ytjagbnaacfhokaa
