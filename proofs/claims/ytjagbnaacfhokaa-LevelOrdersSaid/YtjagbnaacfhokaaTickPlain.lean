/- Instants of nets, in plain Lean. No Go in sight. -/
import Derived.Test.YtjagbnaacfhokaaLevelPlain
namespace Go.Proofs.Ytjagbnaacfhokaa
set_option linter.unusedVariables false
set_option linter.unusedSimpArgs false

def pickM (v l : List Int) : List Int := l.map (valI v)
def turnN (N : NetM) (regs ins : List Int) : Option (List Int × List Int) :=
  if (settledM N.gates regs ins).contains 2 then none else some (pickM (settledM N.gates regs ins) N.outs, pickM (settledM N.gates regs ins) (nextsM N))
def bitsM (x : Int) : Nat → List Int
  | 0 => []
  | n + 1 => x % 2 :: bitsM (x / 2) n
def runFrom (N : NetM) : List Int → List Int → Option (List (List Int) × List Int)
  | r, [] => some ([], r)
  | r, x :: l => (turnN N r (bitsM x N.ins.toNat)).bind fun o => (runFrom N o.2 l).map fun q => (o.1 :: q.1, q.2)
def badTime (ins : Nat) (x : Int) : Bool := decide (x < 0) || decide (2 ^ ins ≤ x)
def timesM (l : List Int) (ins : Nat) : Int := if 60 < l.length then 2 else if l.any (badTime ins) then 3 else 0
def runE (N : NetM) (l : List Int) : Int :=
  if checkN N ≠ 0 then checkN N else if timesM l N.ins.toNat ≠ 0 then timesM l N.ins.toNat else if (runFrom N (firstM N) l).isNone then 6 else 0
def runV (N : NetM) (l : List Int) : List (List Int) × List Int := if runE N l = 0 then (runFrom N (firstM N) l).getD ([], []) else ([], [])
theorem runE_ok {N : NetM} {l : List Int} (h : runE N l = 0) : checkN N = 0 ∧ timesM l N.ins.toNat = 0 ∧ ∃ q, runFrom N (firstM N) l = some q := by
  unfold runE at h
  by_cases h1 : checkN N = 0
  · rw [if_neg (by simp [h1])] at h
    by_cases h2 : timesM l N.ins.toNat = 0
    · rw [if_neg (by simp [h2])] at h
      cases h3 : runFrom N (firstM N) l with
      | none => rw [h3] at h; simp at h
      | some q => exact ⟨h1, h2, q, rfl⟩
    · rw [if_pos h2] at h; exact absurd h h2
  · rw [if_pos h1] at h; exact absurd h h1
theorem runFrom_snoc (N : NetM) (x : Int) : ∀ (l r : List Int), runFrom N r (l ++ [x]) = (runFrom N r l).bind fun q => (turnN N q.2 (bitsM x N.ins.toNat)).map fun o => (q.1 ++ [o.1], o.2)
  | [], r => by
    simp only [List.nil_append, runFrom, Option.bind_some]
    cases turnN N r (bitsM x N.ins.toNat) <;> rfl
  | y :: l, r => by
    simp only [List.cons_append, runFrom]
    cases turnN N r (bitsM y N.ins.toNat) with
    | none => rfl
    | some o =>
      simp only [Option.bind_some]
      rw [runFrom_snoc N x l o.2]
      cases runFrom N o.2 l with
      | none => rfl
      | some q =>
        simp only [Option.bind_some, Option.map_some]
        cases turnN N q.2 (bitsM x N.ins.toNat) <;> rfl
theorem runFrom_len {N : NetM} : ∀ {l r : List Int} {q : List (List Int) × List Int}, runFrom N r l = some q → q.1.length = l.length
  | [], r, q, h => by simp [runFrom] at h; subst h; rfl
  | x :: l, r, q, h => by
    simp only [runFrom, Option.bind_eq_some_iff, Option.map_eq_some_iff] at h
    obtain ⟨o, _, q', h2, rfl⟩ := h
    simp [runFrom_len h2]
theorem bits_len (x : Int) (n : Nat) : (bitsM x n).length = n := by
  induction n generalizing x with
  | zero => rfl
  | succ n ih => simp [bitsM, ih]
theorem bits_good (x : Int) (n : Nat) : ∀ y ∈ bitsM x n, y = 0 ∨ y = 1 := by
  induction n generalizing x with
  | zero => simp [bitsM]
  | succ n ih =>
    intro y hy
    rcases List.mem_cons.1 hy with e | e
    · omega
    · exact ih _ y e
theorem bits_at (x : Int) : ∀ (n k : Nat), k < n → (bitsM x n)[k]? = some (x / 2 ^ k % 2)
  | 0, k, h => by omega
  | n + 1, 0, _ => by simp [bitsM]
  | n + 1, k + 1, h => by
    simp only [bitsM, List.getElem?_cons_succ]
    rw [bits_at (x / 2) n k (by omega), Int.ediv_ediv_of_nonneg (by decide), Int.pow_succ, Int.mul_comm]

/-! right nets -/
structure NetOK (N : NetM) : Prop where
  ins0 : 0 ≤ N.ins
  ins3 : N.ins ≤ 3
  gl : N.gates.length ≤ 200
  rl : N.regs.length ≤ 20
  ol : N.outs.length ≤ 3
  al : ∀ g ∈ N.gates, g.args.length ≤ 16
  named : ∀ k ∈ namedM N, 0 ≤ k ∧ k < N.gates.length
  kinds : ∀ g ∈ N.gates, 0 ≤ g.kind ∧ g.kind ≤ 6
  form : ∀ g ∈ N.gates, formM N g = true
theorem checkN_ok {N : NetM} (h : checkN N = 0) : NetOK N := by
  unfold checkN at h
  cases h1 : tooMany N with
  | true => rw [h1] at h; simp at h
  | false =>
  rw [h1, if_neg (by simp)] at h
  cases h2 : N.gates.any manyA with
  | true => rw [h2] at h; simp at h
  | false =>
  rw [h2, if_neg (by simp)] at h
  by_cases h3 : N.ins < 0
  · rw [if_pos h3] at h; cases h
  rw [if_neg h3] at h
  cases h4 : (namedM N).any (badPlace N.gates.length) with
  | true => rw [h4] at h; simp at h
  | false =>
  rw [h4, if_neg (by simp)] at h
  cases h5 : N.gates.any badGK with
  | true => rw [h5] at h; simp at h
  | false =>
  rw [h5, if_neg (by simp)] at h
  cases h6 : N.gates.all (formM N) with
  | false => rw [h6] at h; simp at h
  | true =>
  simp only [tooMany, Bool.or_eq_false_iff, decide_eq_false_iff_not] at h1
  refine ⟨by omega, by omega, by omega, by omega, by omega, fun g hg => ?_, fun k hk => ?_, fun g hg => ?_, fun g hg => List.all_eq_true.1 h6 g hg⟩
  · have := List.any_eq_false.1 h2 g hg; simp [manyA] at this; omega
  · have := List.any_eq_false.1 h4 k hk; simp [badPlace] at this; omega
  · have := List.any_eq_false.1 h5 g hg; simp [badGK] at this; omega
theorem NetOK.check {N : NetM} (h : NetOK N) : checkN N = 0 := by
  have h1 : tooMany N = false := by
    have := h.ins3; have := h.gl; have := h.rl; have := h.ol
    simp only [tooMany, Bool.or_eq_false_iff, decide_eq_false_iff_not]; omega
  have h2 : N.gates.any manyA = false := List.any_eq_false.2 fun g hg => by have := h.al g hg; simp [manyA]; omega
  have h3 : ¬ N.ins < 0 := by have := h.ins0; omega
  have h4 : (namedM N).any (badPlace N.gates.length) = false := List.any_eq_false.2 fun k hk => by have := h.named k hk; simp [badPlace]; omega
  have h5 : N.gates.any badGK = false := List.any_eq_false.2 fun g hg => by have := h.kinds g hg; simp [badGK]; omega
  have h6 : N.gates.all (formM N) = true := List.all_eq_true.2 h.form
  simp [checkN, h1, h2, h3, h4, h5, h6]
theorem NetOK.args {N : NetM} (h : NetOK N) : okArgs N.gates := fun g hg a ha => h.named a (by
  unfold namedM; rw [List.mem_append]; right; exact List.mem_flatMap.2 ⟨g, hg, ha⟩)
theorem NetOK.outs {N : NetM} (h : NetOK N) : inR N.gates.length N.outs := fun a ha => h.named a (by simp [namedM, ha])
theorem NetOK.nexts {N : NetM} (h : NetOK N) : inR N.gates.length (nextsM N) := fun a ha => h.named a (by
  unfold nextsM at ha; unfold namedM; simp only [List.mem_append]; exact .inl (.inr ha))
theorem first_good (N : NetM) : ∀ x ∈ firstM N, x = 0 ∨ x = 1 := fun x hx => by
  obtain ⟨r, _, rfl⟩ := List.mem_map.1 hx
  split <;> simp
theorem good01 {l : List Int} (h : ∀ x ∈ l, x = 0 ∨ x = 1) : goodL l ∧ (2 : Int) ∉ l :=
  ⟨fun x hx => by rcases h x hx with e | e <;> simp [e], fun hm => by rcases h 2 hm with e | e <;> cases e⟩
theorem turnN_good {N : NetM} {regs ins : List Int} {o : List Int × List Int} (hr : goodL regs) (hi : goodL ins) (h : turnN N regs ins = some o) : (∀ x ∈ o.1, x = 0 ∨ x = 1) ∧ ∀ x ∈ o.2, x = 0 ∨ x = 1 := by
  unfold turnN at h
  split at h
  · cases h
  · rename_i hc
    have hc : (2 : Int) ∉ settledM N.gates regs ins := by simpa using hc
    have hv := settled_good (gs := N.gates) hr hi
    have key : ∀ k, valI (settledM N.gates regs ins) k = 0 ∨ valI (settledM N.gates regs ins) k = 1 := fun k => by
      have := val_shut hc k
      rcases valI_good hv k with e | e | e
      · exact .inl e
      · exact .inr e
      · exact absurd e this
    injection h with h; subst h
    exact ⟨fun x hx => by obtain ⟨k, _, rfl⟩ := List.mem_map.1 hx; exact key k, fun x hx => by obtain ⟨k, _, rfl⟩ := List.mem_map.1 hx; exact key k⟩
theorem turnN_len {N : NetM} {regs ins : List Int} {o : List Int × List Int} (h : turnN N regs ins = some o) : o.1.length = N.outs.length ∧ o.2.length = N.regs.length := by
  unfold turnN at h
  split at h
  · cases h
  · injection h with h; subst h; simp [pickM, nextsM]
theorem runFrom_good {N : NetM} : ∀ {l r : List Int} {q : List (List Int) × List Int}, (∀ x ∈ r, x = 0 ∨ x = 1) → r.length = N.regs.length → runFrom N r l = some q →
    (∀ x ∈ q.2, x = 0 ∨ x = 1) ∧ q.2.length = N.regs.length ∧ ∀ row ∈ q.1, row.length = N.outs.length ∧ ∀ x ∈ row, x = 0 ∨ x = 1
  | [], r, q, hr, hl, h => by simp [runFrom] at h; subst h; exact ⟨hr, hl, by simp⟩
  | x :: l, r, q, hr, hl, h => by
    simp only [runFrom, Option.bind_eq_some_iff, Option.map_eq_some_iff] at h
    obtain ⟨o, h1, q', h2, rfl⟩ := h
    have g := turnN_good (good01 hr).1 (good01 (bits_good _ _)).1 h1
    have gl := turnN_len h1
    obtain ⟨k1, k2, k3⟩ := runFrom_good g.2 gl.2 h2
    refine ⟨k1, k2, fun row hrow => ?_⟩
    rcases List.mem_cons.1 hrow with e | e
    · rw [e]; exact ⟨gl.1, g.1⟩
    · exact k3 row e
end Go.Proofs.Ytjagbnaacfhokaa
