/- Instants of nets, in plain Lean. No Go in sight. -/
import Derived.Test.YtlafiddfplhafaaFc01
import Derived.Orders
import Derived.RegionTactic
import Derived.Deep.RegionHeld3
namespace Go.Proofs.Ytlafiddfplhafaa
set_option linter.unusedVariables false
set_option linter.unusedSimpArgs false
set_option linter.unusedVariables false
set_option linter.unusedSimpArgs false
def pickM (v l : List Int) : List Int := l.map (valI v)
def turnN (N : NetM) (regs ins : List Int) : Option (List Int × List Int) :=
  if (settledM N.gates regs ins).contains 2 then none else some (pickM (settledM N.gates regs ins) N.outs, pickM (settledM N.gates regs ins) (nextsM N))
def bitsM (x : Int) : Nat → List Int
  | 0 => []
  | n + 1 => x % 2 :: bitsM (x / 2) n
def runFrom (N : NetM) : List Int → List Int → Option (List (List Int) × List Int)
  | r, [] => some ([], r)
  | r, x :: l => (turnN N r (bitsM x N.ins.toNat)).bind fun o => (runFrom N o.2 l).map fun q => (o.1 :: q.1, q.2)
def badTime (ins : Nat) (x : Int) : Bool := decide (x < 0) || decide (2 ^ ins ≤ x)
def timesM (l : List Int) (ins : Nat) : Int := if 60 < l.length then 2 else if l.any (badTime ins) then 3 else 0
def runE (N : NetM) (l : List Int) : Int :=
  if checkN N ≠ 0 then checkN N else if timesM l N.ins.toNat ≠ 0 then timesM l N.ins.toNat else if (runFrom N (firstM N) l).isNone then 6 else 0
def runV (N : NetM) (l : List Int) : List (List Int) × List Int := if runE N l = 0 then (runFrom N (firstM N) l).getD ([], []) else ([], [])
theorem runE_ok {N : NetM} {l : List Int} (h : runE N l = 0) : checkN N = 0 ∧ timesM l N.ins.toNat = 0 ∧ ∃ q, runFrom N (firstM N) l = some q := by
  unfold runE at h
  by_cases h1 : checkN N = 0
  · rw [if_neg (by simp [h1])] at h
    by_cases h2 : timesM l N.ins.toNat = 0
    · rw [if_neg (by simp [h2])] at h
      cases h3 : runFrom N (firstM N) l with
      | none => rw [h3] at h; simp at h
      | some q => exact ⟨h1, h2, q, rfl⟩
    · rw [if_pos h2] at h; exact absurd h h2
  · rw [if_pos h1] at h; exact absurd h h1
theorem runFrom_snoc (N : NetM) (x : Int) : ∀ (l r : List Int), runFrom N r (l ++ [x]) = (runFrom N r l).bind fun q => (turnN N q.2 (bitsM x N.ins.toNat)).map fun o => (q.1 ++ [o.1], o.2)
  | [], r => by
    simp only [List.nil_append, runFrom, Option.bind_some]
    cases turnN N r (bitsM x N.ins.toNat) <;> rfl
  | y :: l, r => by
    simp only [List.cons_append, runFrom]
    cases turnN N r (bitsM y N.ins.toNat) with
    | none => rfl
    | some o =>
      simp only [Option.bind_some]
      rw [runFrom_snoc N x l o.2]
      cases runFrom N o.2 l with
      | none => rfl
      | some q =>
        simp only [Option.bind_some, Option.map_some]
        cases turnN N q.2 (bitsM x N.ins.toNat) <;> rfl
theorem bits_len (x : Int) (n : Nat) : (bitsM x n).length = n := by
  induction n generalizing x with
  | zero => rfl
  | succ n ih => simp [bitsM, ih]
theorem bits_good (x : Int) (n : Nat) : ∀ y ∈ bitsM x n, y = 0 ∨ y = 1 := by
  induction n generalizing x with
  | zero => simp [bitsM]
  | succ n ih =>
    intro y hy
    rcases List.mem_cons.1 hy with e | e
    · omega
    · exact ih _ y e
theorem bits_at (x : Int) : ∀ (n k : Nat), k < n → (bitsM x n)[k]? = some (x / 2 ^ k % 2)
  | 0, k, h => by omega
  | n + 1, 0, _ => by simp [bitsM]
  | n + 1, k + 1, h => by
    simp only [bitsM, List.getElem?_cons_succ]
    rw [bits_at (x / 2) n k (by omega), Int.ediv_ediv_of_nonneg (by decide), Int.pow_succ, Int.mul_comm]
/-! right nets -/
structure NetOK (N : NetM) : Prop where
  ins0 : 0 ≤ N.ins
  ins3 : N.ins ≤ 3
  gl : N.gates.length ≤ 200
  rl : N.regs.length ≤ 20
  ol : N.outs.length ≤ 3
  al : ∀ g ∈ N.gates, g.args.length ≤ 16
  named : ∀ k ∈ namedM N, 0 ≤ k ∧ k < N.gates.length
  kinds : ∀ g ∈ N.gates, 0 ≤ g.kind ∧ g.kind ≤ 6
  form : ∀ g ∈ N.gates, formM N g = true
theorem checkN_ok {N : NetM} (h : checkN N = 0) : NetOK N := by
  unfold checkN at h
  cases h1 : tooMany N with
  | true => rw [h1] at h; simp at h
  | false =>
  rw [h1, if_neg (by simp)] at h
  cases h2 : N.gates.any manyA with
  | true => rw [h2] at h; simp at h
  | false =>
  rw [h2, if_neg (by simp)] at h
  by_cases h3 : N.ins < 0
  · rw [if_pos h3] at h; cases h
  rw [if_neg h3] at h
  cases h4 : (namedM N).any (badPlace N.gates.length) with
  | true => rw [h4] at h; simp at h
  | false =>
  rw [h4, if_neg (by simp)] at h
  cases h5 : N.gates.any badGK with
  | true => rw [h5] at h; simp at h
  | false =>
  rw [h5, if_neg (by simp)] at h
  cases h6 : N.gates.all (formM N) with
  | false => rw [h6] at h; simp at h
  | true =>
  simp only [tooMany, Bool.or_eq_false_iff, decide_eq_false_iff_not] at h1
  refine ⟨by omega, by omega, by omega, by omega, by omega, fun g hg => ?_, fun k hk => ?_, fun g hg => ?_, fun g hg => List.all_eq_true.1 h6 g hg⟩
  · have := List.any_eq_false.1 h2 g hg; simp [manyA] at this; omega
  · have := List.any_eq_false.1 h4 k hk; simp [badPlace] at this; omega
  · have := List.any_eq_false.1 h5 g hg; simp [badGK] at this; omega
theorem NetOK.check {N : NetM} (h : NetOK N) : checkN N = 0 := by
  have h1 : tooMany N = false := by
    have := h.ins3; have := h.gl; have := h.rl; have := h.ol
    simp only [tooMany, Bool.or_eq_false_iff, decide_eq_false_iff_not]; omega
  have h2 : N.gates.any manyA = false := List.any_eq_false.2 fun g hg => by have := h.al g hg; simp [manyA]; omega
  have h3 : ¬ N.ins < 0 := by have := h.ins0; omega
  have h4 : (namedM N).any (badPlace N.gates.length) = false := List.any_eq_false.2 fun k hk => by have := h.named k hk; simp [badPlace]; omega
  have h5 : N.gates.any badGK = false := List.any_eq_false.2 fun g hg => by have := h.kinds g hg; simp [badGK]; omega
  have h6 : N.gates.all (formM N) = true := List.all_eq_true.2 h.form
  simp [checkN, h1, h2, h3, h4, h5, h6]
theorem NetOK.args {N : NetM} (h : NetOK N) : okArgs N.gates := fun g hg a ha => h.named a (by
  unfold namedM; rw [List.mem_append]; right; exact List.mem_flatMap.2 ⟨g, hg, ha⟩)
theorem NetOK.outs {N : NetM} (h : NetOK N) : inR N.gates.length N.outs := fun a ha => h.named a (by simp [namedM, ha])
theorem NetOK.nexts {N : NetM} (h : NetOK N) : inR N.gates.length (nextsM N) := fun a ha => h.named a (by
  unfold nextsM at ha; unfold namedM; simp only [List.mem_append]; exact .inl (.inr ha))
theorem first_good (N : NetM) : ∀ x ∈ firstM N, x = 0 ∨ x = 1 := fun x hx => by
  obtain ⟨r, _, rfl⟩ := List.mem_map.1 hx
  split <;> simp
theorem good01 {l : List Int} (h : ∀ x ∈ l, x = 0 ∨ x = 1) : goodL l ∧ (2 : Int) ∉ l :=
  ⟨fun x hx => by rcases h x hx with e | e <;> simp [e], fun hm => by rcases h 2 hm with e | e <;> cases e⟩
theorem turnN_good {N : NetM} {regs ins : List Int} {o : List Int × List Int} (hr : goodL regs) (hi : goodL ins) (h : turnN N regs ins = some o) : (∀ x ∈ o.1, x = 0 ∨ x = 1) ∧ ∀ x ∈ o.2, x = 0 ∨ x = 1 := by
  unfold turnN at h
  split at h
  · cases h
  · rename_i hc
    have hc : (2 : Int) ∉ settledM N.gates regs ins := by simpa using hc
    have hv := settled_good (gs := N.gates) hr hi
    have key : ∀ k, valI (settledM N.gates regs ins) k = 0 ∨ valI (settledM N.gates regs ins) k = 1 := fun k => by
      have := val_shut hc k
      rcases valI_good hv k with e | e | e
      · exact .inl e
      · exact .inr e
      · exact absurd e this
    injection h with h; subst h
    exact ⟨fun x hx => by obtain ⟨k, _, rfl⟩ := List.mem_map.1 hx; exact key k, fun x hx => by obtain ⟨k, _, rfl⟩ := List.mem_map.1 hx; exact key k⟩
theorem turnN_len {N : NetM} {regs ins : List Int} {o : List Int × List Int} (h : turnN N regs ins = some o) : o.1.length = N.outs.length ∧ o.2.length = N.regs.length := by
  unfold turnN at h
  split at h
  · cases h
  · injection h with h; subst h; simp [pickM, nextsM]
end Go.Proofs.Ytlafiddfplhafaa
/- Sixty-four runs at once, in plain Lean: each lane of the words is what is settled by that lane. No program in sight. -/
namespace Go.Proofs.Ytlafiddfplhafaa
set_option linter.unusedVariables false
set_option linter.unusedSimpArgs false
def valW (v : List (BitVec 64)) (k : Int) : BitVec 64 := v[k.toNat]?.getD 0#64
def andW (v : List (BitVec 64)) (l : List Int) (o : BitVec 64) : BitVec 64 := l.foldl (fun o a => o &&& valW v a) o
def orW (v : List (BitVec 64)) (l : List Int) (o : BitVec 64) : BitVec 64 := l.foldl (fun o a => o ||| valW v a) o
def ofW (regs ins v : List (BitVec 64)) (g : GateM) : BitVec 64 :=
  if g.kind = 1 then BitVec.allOnes 64 else if g.kind = 2 then valW ins g.num else if g.kind = 3 then valW regs g.num
  else if g.kind = 4 then andW v g.args (BitVec.allOnes 64) else if g.kind = 5 then orW v g.args 0#64
  else if g.kind = 6 then ~~~ (valW v (g.args.headD 0)) else 0#64
def alongW (gs : List GateM) (regs ins : List (BitVec 64)) : List Int → List (BitVec 64) → List (BitVec 64)
  | [], v => v
  | k :: l, v => alongW gs regs ins l (v.set k.toNat (ofW regs ins v ((gs[k.toNat]?).getD ⟨0, 0, []⟩)))
def pickW (v : List (BitVec 64)) (l : List Int) : List (BitVec 64) := l.map (valW v)
def playW (N : NetM) (regs ins : List (BitVec 64)) : List (BitVec 64) × List (BitVec 64) :=
  match orderM N.gates with
  | some l => (pickW (alongW N.gates regs ins l (List.replicate N.gates.length 0#64)) N.outs, pickW (alongW N.gates regs ins l (List.replicate N.gates.length 0#64)) (nextsM N))
  | none => ([], [])
def firstW (N : NetM) : List (BitVec 64) := N.regs.map fun r => if r.fst then BitVec.allOnes 64 else 0#64
def runW (N : NetM) : List (BitVec 64) → List (List (BitVec 64)) → List (List (BitVec 64))
  | _, [] => []
  | r, x :: l => (playW N r x).1 :: runW N (playW N r x).2 l
def bitI (k : Nat) (x : BitVec 64) : Int := if x.getLsbD k then 1 else 0
def laneI (k : Nat) (l : List (BitVec 64)) : List Int := l.map (bitI k)
theorem bitI_zero (k : Nat) : bitI k 0#64 = 0 := by simp [bitI]
theorem bitI_ones {k : Nat} (hk : k < 64) : bitI k (BitVec.allOnes 64) = 1 := by unfold bitI; rw [BitVec.getLsbD_allOnes, if_pos (by simpa using hk)]
theorem bitI_01 (k : Nat) (x : BitVec 64) : bitI k x = 0 ∨ bitI k x = 1 := by unfold bitI; split <;> simp
theorem lane_01 (k : Nat) (l : List (BitVec 64)) : ∀ x ∈ laneI k l, x = 0 ∨ x = 1 := fun x hx => by
  obtain ⟨y, _, rfl⟩ := List.mem_map.1 hx; exact bitI_01 k y
theorem lane_len (k : Nat) (l : List (BitVec 64)) : (laneI k l).length = l.length := by simp [laneI]
theorem val_lane (k : Nat) (v : List (BitVec 64)) (a : Int) : valI (laneI k v) a = bitI k (valW v a) := by
  unfold valI laneI valW
  rw [List.getElem?_map]
  cases v[a.toNat]? with
  | none => simp [bitI]
  | some x => rfl
theorem pick_lane (k : Nat) (v : List (BitVec 64)) (l : List Int) : pickM (laneI k v) l = laneI k (pickW v l) := by
  unfold pickM pickW laneI
  rw [List.map_map]
  exact List.map_congr_left fun a _ => val_lane k v a
theorem andW_bit (v : List (BitVec 64)) (k : Nat) (l : List Int) : ∀ o, (andW v l o).getLsbD k = (o.getLsbD k && l.all fun a => (valW v a).getLsbD k) := by
  induction l with
  | nil => intro o; simp [andW]
  | cons a l ih => intro o; simp only [andW, List.foldl_cons, List.all_cons] at *; rw [ih, BitVec.getLsbD_and, Bool.and_assoc]
theorem orW_bit (v : List (BitVec 64)) (k : Nat) (l : List Int) : ∀ o, (orW v l o).getLsbD k = (o.getLsbD k || l.any fun a => (valW v a).getLsbD k) := by
  induction l with
  | nil => intro o; simp [orW]
  | cons a l ih => intro o; simp only [orW, List.foldl_cons, List.any_cons] at *; rw [ih, BitVec.getLsbD_or, Bool.or_assoc]
theorem two_out (k : Nat) (v : List (BitVec 64)) (l : List Int) : ¬ (2 : Int) ∈ l.map (valI (laneI k v)) := by
  intro h
  obtain ⟨a, _, e⟩ := List.mem_map.1 h
  rw [val_lane] at e
  rcases bitI_01 k (valW v a) with h | h <;> omega
theorem worth_lane {k : Nat} (hk : k < 64) (regs ins v : List (BitVec 64)) {g : GateM} (h0 : 0 ≤ g.kind ∧ g.kind ≤ 6) (h6 : g.kind = 6 → g.args.length = 1) :
    worthM (laneI k regs) (laneI k ins) (laneI k v) g = bitI k (ofW regs ins v g) := by
  obtain ⟨kind, num, args⟩ := g
  simp only at h0 h6
  have : kind = 0 ∨ kind = 1 ∨ kind = 2 ∨ kind = 3 ∨ kind = 4 ∨ kind = 5 ∨ kind = 6 := by omega
  rcases this with rfl | rfl | rfl | rfl | rfl | rfl | rfl
  · simp [worthM, ofW, bitI_zero]
  · have e2 : ofW regs ins v ⟨1, num, args⟩ = BitVec.allOnes 64 := by unfold ofW; rw [if_pos rfl]
    rw [e2, bitI_ones hk]; simp [worthM]
  · simp [worthM, ofW, val_lane]
  · simp [worthM, ofW, val_lane]
  · have e1 : worthM (laneI k regs) (laneI k ins) (laneI k v) ⟨4, num, args⟩ = ofM 4 (args.map (valI (laneI k v))) := by simp [worthM]
    have e2 : ofW regs ins v ⟨4, num, args⟩ = andW v args (BitVec.allOnes 64) := by simp [ofW]
    rw [e1, e2, show ofM 4 (args.map (valI (laneI k v))) = gatherM 0 (args.map (valI (laneI k v))) 1 from by simp [ofM], gatherM_eq 0 (by decide), if_neg (two_out k v args)]
    unfold bitI
    rw [andW_bit, BitVec.getLsbD_allOnes]
    have : ((0 : Int) ∈ args.map (valI (laneI k v))) = ¬ (args.all fun a => (valW v a).getLsbD k) = true := by
      rw [eq_iff_iff, List.all_eq_true, List.mem_map]
      constructor
      · rintro ⟨a, ha, e⟩ hx; rw [val_lane, bitI, if_pos (hx a ha)] at e; cases e
      · intro hx
        refine Classical.byContradiction fun hn => hx fun a ha => ?_
        cases e : (valW v a).getLsbD k with
        | true => rfl
        | false => exact absurd ⟨a, ha, by rw [val_lane, bitI, e]; rfl⟩ hn
    simp only [this, hk, decide_true, Bool.true_and]
    cases args.all fun a => (valW v a).getLsbD k <;> simp
  · have e1 : worthM (laneI k regs) (laneI k ins) (laneI k v) ⟨5, num, args⟩ = ofM 5 (args.map (valI (laneI k v))) := by simp [worthM]
    have e2 : ofW regs ins v ⟨5, num, args⟩ = orW v args 0#64 := by simp [ofW]
    rw [e1, e2, show ofM 5 (args.map (valI (laneI k v))) = gatherM 1 (args.map (valI (laneI k v))) 0 from by simp [ofM], gatherM_eq 1 (by decide), if_neg (two_out k v args)]
    unfold bitI
    rw [orW_bit]
    have : ((1 : Int) ∈ args.map (valI (laneI k v))) = ((args.any fun a => (valW v a).getLsbD k) = true) := by
      rw [eq_iff_iff, List.any_eq_true, List.mem_map]
      constructor
      · rintro ⟨a, ha, e⟩
        refine ⟨a, ha, ?_⟩
        rw [val_lane, bitI] at e
        cases e2 : (valW v a).getLsbD k with
        | true => rfl
        | false => rw [e2] at e; simp at e
      · rintro ⟨a, ha, e⟩; exact ⟨a, ha, by rw [val_lane, bitI, if_pos e]⟩
    simp only [this, BitVec.getLsbD_zero, Bool.false_or]
  · obtain ⟨a, rfl⟩ := List.length_eq_one_iff.1 (h6 rfl)
    have e1 : worthM (laneI k regs) (laneI k ins) (laneI k v) ⟨6, num, [a]⟩ = notM (valI (laneI k v) a) := by simp [worthM, ofM]
    have e2 : ofW regs ins v ⟨6, num, [a]⟩ = ~~~ (valW v a) := by simp [ofW]
    rw [e1, e2, val_lane]
    unfold bitI
    rw [BitVec.getLsbD_not]
    cases (valW v a).getLsbD k <;> simp [hk, notM]
theorem along_lane {k : Nat} (hk : k < 64) {gs : List GateM} (h : ∀ g ∈ gs, (0 ≤ g.kind ∧ g.kind ≤ 6) ∧ (g.kind = 6 → g.args.length = 1)) (regs ins : List (BitVec 64)) : ∀ (l : List Int) (v : List (BitVec 64)),
    laneI k (alongW gs regs ins l v) = alongM gs (laneI k regs) (laneI k ins) l (laneI k v)
  | [], _ => rfl
  | j :: l, v => by
    simp only [alongW, alongM]
    rw [along_lane hk h regs ins l]
    congr 1
    unfold laneI
    rw [List.map_set]
    congr 1
    have : (0 ≤ ((gs[j.toNat]?).getD ⟨0, 0, []⟩).kind ∧ ((gs[j.toNat]?).getD ⟨0, 0, []⟩).kind ≤ 6) ∧ (((gs[j.toNat]?).getD ⟨0, 0, []⟩).kind = 6 → ((gs[j.toNat]?).getD ⟨0, 0, []⟩).args.length = 1) := by
      cases e : gs[j.toNat]? with
      | none => exact ⟨by decide, fun h => by cases h⟩
      | some g => exact h g (List.mem_of_getElem? e)
    exact (worth_lane hk regs ins v this.1 this.2).symm
theorem alongW_len (gs : List GateM) (regs ins : List (BitVec 64)) : ∀ (l : List Int) (v : List (BitVec 64)), (alongW gs regs ins l v).length = v.length
  | [], v => rfl
  | k :: l, v => by simp only [alongW]; rw [alongW_len gs regs ins l]; simp
/-- Words that agree in every lane are the same. -/
theorem lanes_ext {a b : List (BitVec 64)} (h : ∀ k < 64, laneI k a = laneI k b) : a = b := by
  have hl : a.length = b.length := by have := congrArg List.length (h 0 (by decide)); simpa [laneI] using this
  refine List.ext_getElem hl fun i h1 h2 => ?_
  refine BitVec.eq_of_getLsbD_eq fun k hk => ?_
  have := congrArg (fun l => l[i]?) (h k hk)
  simp only [laneI, List.getElem?_map, List.getElem?_eq_getElem h1, List.getElem?_eq_getElem h2, Option.map_some] at this
  injection this with this
  unfold bitI at this
  cases e1 : a[i].getLsbD k <;> cases e2 : b[i].getLsbD k <;> rw [e1, e2] at this <;> simp at this <;> rfl
theorem NetOK.forms {N : NetM} (h : NetOK N) : ∀ g ∈ N.gates, (0 ≤ g.kind ∧ g.kind ≤ 6) ∧ (g.kind = 6 → g.args.length = 1) := fun g hg => by
  refine ⟨h.kinds g hg, fun e => ?_⟩
  have := h.form g hg
  unfold formM at this
  rw [e] at this
  simp at this
  exact this.1.1
theorem NetOK.okA {N : NetM} (h : NetOK N) : okArgs N.gates := fun g hg a ha => h.named a (List.mem_append_right _ (List.mem_flatMap.2 ⟨g, hg, ha⟩))
/-- Each lane of what is told along the order is what is settled. -/
theorem alongW_settled {N : NetM} {l : List Int} (ok : NetOK N) (h : orderM N.gates = some l) {k : Nat} (hk : k < 64) (regs ins : List (BitVec 64)) {v : List (BitVec 64)} (hv : v.length = N.gates.length) :
    laneI k (alongW N.gates regs ins l v) = settledM N.gates (laneI k regs) (laneI k ins) := by
  rw [along_lane hk ok.forms, along_settled ok.okA h (by rw [lane_len, hv])]
/-- What the words were ahead of an instant does not matter. -/
theorem alongW_any {N : NetM} {l : List Int} (ok : NetOK N) (h : orderM N.gates = some l) (regs ins : List (BitVec 64)) {v : List (BitVec 64)} (hv : v.length = N.gates.length) :
    alongW N.gates regs ins l v = alongW N.gates regs ins l (List.replicate N.gates.length 0#64) :=
  lanes_ext fun k hk => by rw [alongW_settled ok h hk regs ins hv, alongW_settled ok h hk regs ins (by simp)]
theorem wplay_any {N : NetM} {l : List Int} (ok : NetOK N) (h : orderM N.gates = some l) (regs ins : List (BitVec 64)) {v : List (BitVec 64)} (hv : v.length = N.gates.length) :
    playW N regs ins = (pickW (alongW N.gates regs ins l v) N.outs, pickW (alongW N.gates regs ins l v) (nextsM N)) := by
  unfold playW; rw [h, alongW_any ok h regs ins hv]
/-- Each lane is what that lane does alone. -/
theorem turn_lane {N : NetM} {l : List Int} (ok : NetOK N) (h : orderM N.gates = some l) {k : Nat} (hk : k < 64) (regs ins : List (BitVec 64)) :
    turnN N (laneI k regs) (laneI k ins) = some (laneI k (playW N regs ins).1, laneI k (playW N regs ins).2) := by
  unfold turnN
  rw [wplay_any ok h regs ins (List.length_replicate (n := N.gates.length) (a := 0#64))]
  rw [← alongW_settled ok h hk regs ins (List.length_replicate (n := N.gates.length) (a := 0#64))]
  rw [if_neg]
  · rw [pick_lane, pick_lane]
  · intro hc
    have hm : (2 : Int) ∈ laneI k (alongW N.gates regs ins l (List.replicate N.gates.length 0#64)) := by simpa using hc
    rcases lane_01 _ _ _ hm with e | e <;> cases e
theorem play_len {N : NetM} {l : List Int} (h : orderM N.gates = some l) (regs ins : List (BitVec 64)) : (playW N regs ins).1.length = N.outs.length ∧ (playW N regs ins).2.length = N.regs.length := by
  unfold playW; rw [h]; simp [pickW, nextsM]
/-! the lanes, put together again -/
/-! a run of 64, and the run of one lane -/
def lastW (N : NetM) : List (BitVec 64) → List (List (BitVec 64)) → List (BitVec 64)
  | r, [] => r
  | r, x :: l => lastW N (playW N r x).2 l
def packX (k : Nat) : List (BitVec 64) → Int
  | [] => 0
  | x :: l => 2 * packX k l + bitI k x
theorem packX_bits (k : Nat) : ∀ l : List (BitVec 64), bitsM (packX k l) l.length = laneI k l
  | [] => rfl
  | x :: l => by
    have h1 : (2 * packX k l + bitI k x) % 2 = bitI k x := by rcases bitI_01 k x with h | h <;> omega
    have h2 : (2 * packX k l + bitI k x) / 2 = packX k l := by rcases bitI_01 k x with h | h <;> omega
    simp only [packX, List.length_cons, bitsM, h1, h2, packX_bits k l]
    rfl
theorem packX_range (k : Nat) : ∀ l : List (BitVec 64), 0 ≤ packX k l ∧ packX k l < 2 ^ l.length
  | [] => by simp [packX]
  | x :: l => by
    obtain ⟨h1, h2⟩ := packX_range k l
    simp only [packX, List.length_cons, Int.pow_succ]
    rcases bitI_01 k x with h | h <;> omega
theorem first_lane {k : Nat} (hk : k < 64) (N : NetM) : laneI k (firstW N) = firstM N := by
  unfold laneI firstW firstM
  rw [List.map_map]
  refine List.map_congr_left fun r _ => ?_
  show bitI k (if r.fst then BitVec.allOnes 64 else 0#64) = _
  cases r.fst with
  | false => rw [if_neg (by decide), if_neg (by decide)]; exact bitI_zero k
  | true => rw [if_pos rfl, if_pos rfl]; exact bitI_ones hk
theorem run_lane {N : NetM} {l : List Int} (ok : NetOK N) (h : orderM N.gates = some l) {k : Nat} (hk : k < 64) : ∀ (rows : List (List (BitVec 64))) (regs : List (BitVec 64)), (∀ r ∈ rows, (r.length : Int) = N.ins) →
    runFrom N (laneI k regs) (rows.map (packX k)) = some ((runW N regs rows).map (laneI k), laneI k (lastW N regs rows))
  | [], regs, _ => rfl
  | x :: rows, regs, hr => by
    have hx := hr x (by simp)
    simp only [List.map_cons, runFrom]
    rw [show N.ins.toNat = x.length from by omega, packX_bits, turn_lane ok h hk regs x]
    simp only [Option.bind_some]
    rw [run_lane ok h hk rows _ (fun r h => hr r (by simp [h]))]
    rfl
theorem runW_len (N : NetM) : ∀ (rows : List (List (BitVec 64))) (regs : List (BitVec 64)), (runW N regs rows).length = rows.length
  | [], _ => rfl
  | x :: rows, regs => by simp [runW, runW_len N rows]
end Go.Proofs.Ytlafiddfplhafaa
/- More words on memory: rows made shorter; an append a little beyond what came in. No program in sight. -/
namespace Go.Proofs.Ytlafiddfplhafaa
set_option linter.unusedVariables false
set_option linter.unusedSimpArgs false
open Go.RowKit
/-- The front of an own row. -/
theorem own_take {w : World} {base : Nat} {e : TypeId} {g n c : Nat} {xs : List Value} (h : w.ownsRow base e 1 (.slice (some ⟨g, 0, none⟩) n c) n xs) {m : Nat} (hm : m ≤ n) :
    w.ownsRow base e 1 (.slice (some ⟨g, 0, none⟩) m c) m (xs.take m) := by
  obtain ⟨hl, ⟨h0, _⟩ | ⟨g', cap, cur, hv, hb, hg, hnc, hcm, hcs, ht⟩⟩ := h
  · cases h0
  · injection hv with h1 h2 h3
    injection h1 with h1; injection h1 with h1
    subst h1; subst h3
    refine ⟨by simp; omega, .inr ⟨g, c, cur, rfl, hb, hg, by omega, hcm, hcs, ?_⟩⟩
    rw [← ht, List.take_take]; congr 1; omega
theorem own_drop_last {w : World} {base : Nat} {e : TypeId} {g n c : Nat} {ys : List Value} {y : Value} (h : w.ownsRow base e 1 (.slice (some ⟨g, 0, none⟩) (n + 1) c) (n + 1) (ys ++ [y])) :
    w.ownsRow base e 1 (.slice (some ⟨g, 0, none⟩) n c) n ys ∧ w.cell? ⟨g, n, none⟩ = some y := by
  have hl : ys.length = n := by have := h.1; simp at this; omega
  refine ⟨?_, ?_⟩
  · have := own_take h (Nat.le_succ n)
    rwa [List.take_left' hl] at this
  · rw [h.cellAt n (by omega), List.getElem?_append_right (by omega), hl]; simp
theorem growslice_big {need old bytes : Nat} (h : old < need) (hb : need * bytes ≤ 140737489403904) (h8 : bytes ≤ 65536) : Builtin.nextslicecap need old * bytes ≤ 281474976710656 := by
  have h1 : Builtin.nextslicecap need old ≤ need + need / 4 + 1024 ∨ Builtin.nextslicecap need old ≤ 512 := by
    unfold Builtin.nextslicecap
    split
    · omega
    · split
      · omega
      · rw [growBy_four]
        repeat' split
        all_goals omega
  rcases h1 with h1 | h1
  · have h2 : Builtin.nextslicecap need old * bytes ≤ (need + need / 4 + 1024) * bytes := Nat.mul_le_mul_right _ h1
    have h3 : need / 4 * bytes ≤ need * bytes := Nat.mul_le_mul_right _ (Nat.div_le_self _ _)
    have h3' : need / 4 * bytes * 4 ≤ need * bytes := by rw [Nat.mul_right_comm]; exact Nat.mul_le_mul_right _ (Nat.div_mul_le_self _ _)
    have h4 : 1024 * bytes ≤ 67108864 := by omega
    rw [Nat.add_mul, Nat.add_mul] at h2
    omega
  · have h2 : Builtin.nextslicecap need old * bytes ≤ 512 * bytes := Nat.mul_le_mul_right _ h1
    omega
/-- append of all of a slice of one-cell elements onto a row of the call's own; the row may be a little longer than what came in. -/
theorem wpList_appendBig {P : Program} {ops : Array Oper} {rest : List Oper} {o : Oper} {a : Act} {Q : Exit → Act → World → Prop} {w : World} (hgd : o.guard = none) (s x : Operand) (t e : TypeId)
    (ho : o.op = .call { callee := .builtin .append, args := #[s, x], argTypes := #[t, t] })
    {z : Value} {bytes : Nat} (tab : (P.info? e).map (fun i => (i.zero, i.size, i.bytes)) = some (some z, 1, bytes)) (ht : P.underlying t = some (.slice e)) (hzs : z.cells.size = 1) (h8 : bytes ≤ 65536)
    (W0 : World) (hext : Ext W0 w) (v : Value) (n : Nat) (xs : List Value) (hs : a.eval s = v) (hown : w.ownsRow W0.heap.size e 1 v n xs)
    (A : Option Addr) (m c : Nat) (news : List Value) (hx : a.eval x = .slice A m c) (hr : Sl w A m news) (h1 : ∀ u ∈ news, u.oneCell' = true)
    (hbytes : (n + m) * bytes ≤ 140737489403904) (hm4 : n + m ≤ 9007199254740992)
    (h : ∀ v' w', w'.ownsRow W0.heap.size e 1 v' (n + m) (xs ++ news) → Ext W0 w' → w.grownBy w' v.ownBlock → (∀ k, v'.ownBlock = some k → v.ownBlock = some k ∨ w.heap.size ≤ k) → wpList P ops Q rest (a.put o.dst v') w') : wpList P ops Q (o :: rest) a w := by
  have h63 : n + m ≤ maxLen := by unfold maxLen; omega
  obtain ⟨i, hi, hz, hs1, hs2⟩ := info_parts tab
  have hb : ∀ k, v.ownBlock = some k → W0.heap.size ≤ k := fun k hk => (hown.lt k hk).1
  rcases Nat.eq_zero_or_pos m with hm0 | hmp
  · subst hm0
    have hn : news = [] := List.eq_nil_of_length_eq_zero hr.1
    subst hn
    refine wpList_plain hgd fun K hK => ?_
    have hrun : (Builtin.append_ #[t, t] o.type #[v, .slice A 0 c]).run P w = .ok v w := by
      rcases hown.2 with ⟨rfl, rfl⟩ | ⟨g, cap, cur, rfl, _, _, hnc, _⟩
      · simp [Builtin.append_, run_underlying ht, sizeOf, typeInfo, hi, Builtin.lenOf, Builtin.firstCells, loadCells, loadCellsFrom]
        try (cases A <;> simp [Builtin.firstCells, loadCells, loadCellsFrom])
      · simp [Builtin.append_, run_underlying ht, sizeOf, typeInfo, hi, Builtin.lenOf, hnc]
        cases A <;> simp [Builtin.firstCells, loadCells, loadCellsFrom, storeCells]
    unfold Oper.wp execOp
    simp only [ho, resolve, invoke, builtin, Sem.run_bind, Sem.run_pure, Result.andThen_ok, List.map_toArray, List.map_cons, List.map_nil, hs, hx, hrun]
    exact hK _ _ (h v w (by simpa using hown) hext (World.grownBy.refl w _) (fun k hk => .inl hk))
  obtain ⟨b, off, rfl⟩ : ∃ b off, A = some ⟨b, off, none⟩ := by
    have hl : 0 < news.length := by rw [hr.1]; exact hmp
    obtain ⟨b, off, e2, _⟩ := hr.2 0 _ (List.getElem?_eq_getElem hl)
    exact ⟨b, off, e2⟩
  have hcells : ∀ j u, news[j]? = some u → w.cell? ((⟨b, off, none⟩ : Addr).add j) = some u := by
    intro j u hu
    obtain ⟨b', off', e2, hc⟩ := hr.2 j u hu
    injection e2 with e2; injection e2 with e2 e3
    subst e2; subst e3
    rw [add_plain']; exact hc
  have hnl : news.length = m * i.size := by rw [hs1, hr.1]; omega
  have hlen : (xs ++ news).length = (n + m) * 1 := by have := hown.1; have := hr.1; simp; omega
  have grown : ∀ (old : Nat), old < n + m → ∀ (row : Option Nat),
      (w.drew.alloc (.cells (xs.toArray ++ news.toArray ++ Builtin.zeroCells z.cells (grownCap w (n + m) old e - (n + m))) e)).ownsRow W0.heap.size e 1
        (.slice (some ⟨w.heap.size, 0, none⟩) (n + m) (grownCap w (n + m) old e)) (n + m) (xs ++ news) ∧
      w.grownBy (w.drew.alloc (.cells (xs.toArray ++ news.toArray ++ Builtin.zeroCells z.cells (grownCap w (n + m) old e - (n + m))) e)) row := by
    intro old ho' row
    have hge := grownCap_ge w (n + m) old e
    refine ⟨⟨hlen, .inr ⟨w.heap.size, _, _, rfl, hext.size, heap_alloc_new w.drew _, hge, grownCap_le_maxLen w (n + m) old e h63, ?_, ?_⟩⟩, ⟨rfl, rfl, rfl, by simp, fun k hk _ => Below.heap_alloc w.drew _ k hk⟩⟩
    · simp only [Array.size_append, List.size_toArray, size_zeroCells, hzs, hown.1, hr.1, Nat.mul_one]
      omega
    · simp only [Array.toList_append, List.append_assoc]
      rw [← List.append_assoc, ← hlen]
      exact List.take_left
  have hres : ∃ v' w', (Builtin.append_ #[t, t] o.type #[v, .slice (some ⟨b, off, none⟩) m c]).run P w = .ok v' w' ∧ w'.ownsRow W0.heap.size e 1 v' (n + m) (xs ++ news) ∧ w.grownBy w' v.ownBlock ∧ (∀ k, v'.ownBlock = some k → v.ownBlock = some k ∨ w.heap.size ≤ k) := by
    rcases hown.2 with ⟨rfl, rfl⟩ | ⟨g, cap, cur, rfl, hbg, hg, hnc, hcm, hcs, htake⟩
    · have hx0 : xs = [] := List.eq_nil_of_length_eq_zero (by simpa using hown.1)
      subst hx0
      have hr0 := run_append_nil (P := P) w t o.type e i z ht hi hz ⟨b, off, none⟩ m c news hnl hcells hmp (by omega) (by rw [hs2]; simp only [Nat.zero_add] at hbytes; omega)
      have hgr := grown 0 (by omega) (Value.ownBlock (.slice none 0 0))
      simp only [Nat.zero_add, List.nil_append, Array.empty_append] at hgr ⊢
      exact ⟨_, _, hr0, hgr.1, hgr.2, fun k hk => .inr (by simp [Value.ownBlock] at hk; omega)⟩
    · by_cases hroom : n + m ≤ cap
      · have hfit : n * i.size + news.length ≤ cur.size := by rw [hs1, hr.1, hcs]; omega
        have hr0 := run_append_room (P := P) w t o.type e i ht hi g n cap cur hg ⟨b, off, none⟩ m c news hnl hcells h1 hroom hfit
        refine ⟨_, _, hr0, ⟨hlen, .inr ⟨g, cap, _, rfl, hbg, setRow_heap w g cur _ e _ hg, hroom, hcm, ?_, ?_⟩⟩, ⟨rfl, rfl, rfl, by simp, fun k _ hk => setRow_other w g k _ (fun e => hk (by simp [Value.ownBlock, e]))⟩, fun k hk => .inl hk⟩
        · rw [hs1] at *
          simp only [List.size_toArray, List.length_append, List.length_take, List.length_drop, Array.length_toList]
          omega
        · rw [hs1, htake, ← hlen]
          exact List.take_left
      · have holds : ∀ j u, xs[j]? = some u → w.cell? ((⟨g, 0, none⟩ : Addr).add j) = some u := hown.cells (g := g) rfl
        have hr0 := run_append_grow (P := P) w t o.type e i z ht hi hz ⟨g, 0, none⟩ n cap xs (by rw [hs1]; exact hown.1) holds ⟨b, off, none⟩ m c news hnl hcells (by omega) (by omega) (by rw [hs2]; exact growslice_big (by omega) hbytes h8)
        have hgr := grown cap (by omega) (Value.ownBlock (.slice (some ⟨g, 0, none⟩) n cap))
        exact ⟨_, _, hr0, hgr.1, hgr.2, fun k hk => .inr (by simp [Value.ownBlock] at hk; omega)⟩
  obtain ⟨v', w', hrun, k1, k2, k3⟩ := hres
  refine wpList_plain hgd fun K hK => ?_
  unfold Oper.wp execOp
  simp only [ho, resolve, invoke, builtin, Sem.run_bind, Sem.run_pure, Result.andThen_ok, List.map_toArray, List.map_cons, List.map_nil, hs, hx, hrun]
  exact hK _ _ (h v' w' k1 (Below.grown hext k2 hext.size hb) k2 k3)
/-- One place of an own row is written; another own row stays. -/
theorem own_other {w : World} {base : Nat} {e : TypeId} {size n : Nat} {v : Value} {xs : List Value} (h : w.ownsRow base e size v n xs) {g j : Nat} {u : Value} (hg : v.ownBlock ≠ some g) : (w.setCell ⟨g, j, none⟩ u).ownsRow base e size v n xs := by
  refine h.kept (row := some g) ⟨rfl, rfl, rfl, by simp, fun k _ hk => heap_setCell_other w ⟨g, j, none⟩ k u (fun e => hk (by simp [e]))⟩ (.inr hg)
end Go.Proofs.Ytlafiddfplhafaa
/- A row of rows that a call makes, one row behind the other; SameRows. -/
namespace Go.Proofs.Ytlafiddfplhafaa
set_option linter.unusedVariables false
set_option linter.unusedSimpArgs false
open Go.RowKit
theorem own_types {w : World} {base base' : Nat} {e e' : TypeId} {size size' n m : Nat} {v v' : Value} {xs ys : List Value} (h : w.ownsRow base e size v n xs) (h' : w.ownsRow base' e' size' v' m ys) (hne : e ≠ e') : v.ownBlock = none ∨ v.ownBlock ≠ v'.ownBlock := by
  rcases h.2 with ⟨rfl, _⟩ | ⟨g, cap, cur, rfl, _, hg, _⟩
  · exact .inl rfl
  · right
    intro e1
    rcases h'.2 with ⟨rfl, _⟩ | ⟨g', cap', cur', rfl, _, hg', _⟩
    · cases e1
    · have e2 : g = g' := Option.some.inj e1
      subst e2
      rw [hg] at hg'
      injection hg' with hg'
      injection hg' with _ h3 _
      exact hne h3
/-- A row of rows of numbers, all of the call's own. -/
structure OwnRows (E T : TypeId) (w : World) (base : Nat) (s : Value) (rows : List (List Int)) (vs : List Value) : Prop where
  row : w.ownsRow base E 1 s rows.length vs
  own : ∀ (k : Nat) v r, vs[k]? = some v → rows[k]? = some r → w.ownsRow base T 1 v r.length (r.map I)
section
variable {E T : TypeId} {w w' : World} {base : Nat} {s : Value} {rows : List (List Int)} {vs : List Value}
theorem OwnRows.vl (h : OwnRows E T w base s rows vs) : vs.length = rows.length := by have := h.row.1; omega
theorem OwnRows.nil (E T : TypeId) (w : World) (base : Nat) : OwnRows E T w base (.slice none 0 0) [] [] := ⟨World.ownsRow_nil _ _ _ _, fun k v r h => by simp at h⟩
theorem OwnRows.ext (h : OwnRows E T w base s rows vs) (hx : Ext w w') : OwnRows E T w' base s rows vs := ⟨own_ext h.row hx, fun k v r hv hr => own_ext (h.own k v r hv hr) hx⟩
theorem OwnRows.base_le {base' : Nat} (h : OwnRows E T w base s rows vs) (hb : base' ≤ base) : OwnRows E T w base' s rows vs := ⟨own_base h.row hb, fun k v r hv hr => own_base (h.own k v r hv hr) hb⟩
theorem OwnRows.push (h : OwnRows E T w base s rows vs) (hne : T ≠ E) {s' v : Value} {r : List Int} (hv : w.ownsRow base T 1 v r.length (r.map I)) (hown : w'.ownsRow base E 1 s' (rows.length + 1) (vs ++ [v])) (hg : w.grownBy w' s.ownBlock) :
    OwnRows E T w' base s' (rows ++ [r]) (vs ++ [v]) := by
  refine ⟨by simpa using hown, fun k y z hy hz => ?_⟩
  have hvl := h.vl
  by_cases hk : k < vs.length
  · rw [List.getElem?_append_left hk] at hy
    rw [List.getElem?_append_left (by omega)] at hz
    have h1 := h.own k y z hy hz
    exact h1.kept hg (own_types h1 h.row hne)
  · rw [List.getElem?_append_right (by omega)] at hy hz
    rw [← hvl] at hz
    cases hq : k - vs.length with
    | zero =>
      rw [hq] at hy hz
      simp at hy hz
      subst hy; subst hz
      exact hv.kept hg (own_types hv h.row hne)
    | succ q => rw [hq] at hy; simp at hy
end
/-- A slice of slices of numbers that is read. -/
def SlRows (w : World) (A : Option Addr) (n : Nat) (rows : List (List Int)) : Prop :=
  rows.length = n ∧ ∀ (k : Nat) r, rows[k]? = some r → ∃ b off A' c, A = some ⟨b, off, none⟩ ∧ w.cell? ⟨b, off + k, none⟩ = some (.slice A' r.length c) ∧ Sl w A' r.length (r.map I) ∧ r.length ≤ c ∧ c ≤ maxLen
theorem SlRows.keep {w w' : World} {A : Option Addr} {n : Nat} {rows : List (List Int)} (h : SlRows w A n rows) (hk : Keeps w w') : SlRows w' A n rows :=
  ⟨h.1, fun k r hr => let ⟨b, off, A', c, e, hc, hs, h1, h2⟩ := h.2 k r hr; ⟨b, off, A', c, e, hk _ _ hc, hs.keep hk, h1, h2⟩⟩
theorem SlRows.nil (w : World) (A : Option Addr) : SlRows w A 0 [] := ⟨rfl, fun k r h => by simp at h⟩
theorem OwnRows.slice {E T : TypeId} {w : World} {base : Nat} {s : Value} {rows : List (List Int)} {vs : List Value} (h : OwnRows E T w base s rows vs) : ∃ A c, s = .slice A rows.length c ∧ rows.length ≤ c ∧ c ≤ maxLen ∧ SlRows w A rows.length rows := by
  obtain ⟨A, c, rfl, h1, h2, hc⟩ := own_slice h.row
  refine ⟨A, c, rfl, h1, h2, rfl, fun k r hr => ?_⟩
  have hk : k < vs.length := by have := h.vl; have := (List.getElem?_eq_some_iff.1 hr).1; omega
  obtain ⟨b, off, e, hcell⟩ := hc k vs[k] (List.getElem?_eq_getElem hk)
  obtain ⟨A', c', e', g1, g2, hs⟩ := own_sl (h.own k vs[k] r (List.getElem?_eq_getElem hk) hr)
  exact ⟨b, off, A', c', e, by rw [hcell, e'], hs, g1, g2⟩
end Go.Proofs.Ytlafiddfplhafaa
/- A region that draws its order, by one fact for each operation: whatever order is drawn, each operation's slot holds what its fact says. -/
namespace Go.Proofs.Ytlafiddfplhafaa
set_option linter.unusedVariables false
set_option linter.unusedSimpArgs false
open Go.RowKit
theorem wpOp_step' {P : Program} {ops : Array Oper} {Q : Exit → Act → World → Prop} {i : Nat} {o : Oper} {K : Act → World → Prop} {a : Act} {w : World} (ho : ops[i]? = some o) (h1 : Region.wanted o (yielded ops a.tmps) = true) (h2 : Oper.wp P o a w K Q) : wpOp P ops Q i K a w := by
  unfold wpOp
  rw [ho]
  show if Region.wanted o (yielded ops a.tmps) = true then _ else _
  rw [if_pos h1]; exact .inl h2
/-- What is known in the midst of such a region: nothing old has changed, and each operation that has come up has left what its fact says. -/
structure Flow (W0 : World) (a0 : Act) (ops : Array Oper) (F : Nat → Value → World → Prop) (listed : Array Bool) (a : Act) (w : World) : Prop where
  ext : Ext W0 w
  size : a.tmps.size = a0.tmps.size
  defers : a.defers = a0.defers
  base : ∀ s : Nat, (∀ (j : Nat) (o : Oper), ops[j]? = some o → o.dst ≠ some s) → a.tmps[s]? = a0.tmps[s]?
  slot : ∀ (j : Nat) (o : Oper) (d : Nat), listed.getD j false = true → ops[j]? = some o → o.dst = some d → ∃ v, a.tmps[d]? = some v ∧ F j v w
def flowOK (ops : Array Oper) (n : Nat) : Bool :=
  (List.range ops.size).all fun j => match ops[j]? with
    | none => true
    | some o => (match o.dst with
      | some d => decide (d < n) && (List.range j).all (fun i => match ops[i]? with | some o' => !(o'.dst == some d) | none => true)
      | none => false) && o.after.toList.all (fun e => !(Region.binds .any e) || decide (e.on < j))
theorem flow_dst {ops : Array Oper} {n : Nat} (h : flowOK ops n = true) {j : Nat} {o : Oper} (hj : ops[j]? = some o) : ∃ d, o.dst = some d ∧ d < n ∧ (∀ i o', i < j → ops[i]? = some o' → o'.dst ≠ some d) ∧ ∀ e ∈ o.after.toList, Region.binds .any e = true → e.on < j := by
  unfold flowOK at h
  have hlt : j < ops.size := (Array.getElem?_eq_some_iff.1 hj).1
  have h1 := List.all_eq_true.1 h j (List.mem_range.2 hlt)
  rw [hj] at h1
  simp only [Bool.and_eq_true] at h1
  obtain ⟨h1, h2⟩ := h1
  cases hd : o.dst with
  | none => rw [hd] at h1; cases h1
  | some d =>
    rw [hd] at h1
    simp only [Bool.and_eq_true, decide_eq_true_eq] at h1
    refine ⟨d, rfl, h1.1, fun i o' hi ho' => ?_, fun e he hb => by have := List.all_eq_true.1 h2 e he; rw [hb] at this; simpa using this⟩
    have h3 := List.all_eq_true.1 h1.2 i (List.mem_range.2 hi)
    rw [ho'] at h3
    simpa using h3
theorem flow_apart {ops : Array Oper} {n : Nat} (h : flowOK ops n = true) {j i : Nat} {o o' : Oper} {d : Nat} (hj : ops[j]? = some o) (hi : ops[i]? = some o') (hd : o.dst = some d) (hd' : o'.dst = some d) : j = i := by
  rcases Nat.lt_trichotomy j i with q | q | q
  · obtain ⟨d2, e, _, h3, _⟩ := flow_dst h hi
    rw [hd'] at e; injection e with e; subst e
    exact absurd hd (h3 j o q hj)
  · exact q
  · obtain ⟨d2, e, _, h3, _⟩ := flow_dst h hj
    rw [hd] at e; injection e with e; subst e
    exact absurd hd' (h3 i o' q hi)
theorem Flow.put {W0 : World} {a0 : Act} {ops : Array Oper} {F : Nat → Value → World → Prop} {listed : Array Bool} {a : Act} {w w' : World} (hok : flowOK ops a0.tmps.size = true) (mono : ∀ j v w w', F j v w → Ext w w' → F j v w')
    (h : Flow W0 a0 ops F listed a w) (hs : listed.size = ops.size) {j : Nat} {o : Oper} (hj : ops[j]? = some o) {v : Value} (hv : F j v w') (hx : Ext w w') : Flow W0 a0 ops F (listed.setIfInBounds j true) (a.put o.dst v) w' := by
  obtain ⟨d, hd, hdn, -, -⟩ := flow_dst hok hj
  rw [hd]
  refine ⟨h.ext.trans hx, by simpa [Act.put] using h.size, h.defers, fun s hsn => ?_, fun i o' d' hl hi hd' => ?_⟩
  · show (a.tmps.setIfInBounds d v)[s]? = _
    rw [Array.getElem?_setIfInBounds_ne (fun e => hsn j o hj (by rw [hd, e]))]
    exact h.base s hsn
  · show ∃ v', (a.tmps.setIfInBounds d v)[d']? = some v' ∧ _
    by_cases e : j = i
    · subst e
      rw [hj] at hi; injection hi with hi; subst hi
      rw [hd] at hd'; injection hd' with hd'; subst hd'
      refine ⟨v, ?_, hv⟩
      rw [Array.getElem?_setIfInBounds_self_of_lt (by rw [h.size]; exact hdn)]
    · have hne : d ≠ d' := fun q => e (flow_apart hok hj hi hd (by rw [hd', q]))
      have hl' : listed.getD i false = true := by
        rw [Array.getD_eq_getD_getElem?, Array.getElem?_setIfInBounds_ne e] at hl
        rw [Array.getD_eq_getD_getElem?]; exact hl
      obtain ⟨v', h1, h2⟩ := h.slot i o' d' hl' hi hd'
      exact ⟨v', by rw [Array.getElem?_setIfInBounds_ne hne]; exact h1, mono _ _ _ _ h2 hx⟩
theorem ready_of {md : Region.Mode} {ops : Array Oper} {listed : Array Bool} {i : Nat} (h : i ∈ Region.ready md ops listed) : ∃ o, ops[i]? = some o ∧ ∀ e ∈ o.after.toList, Region.binds md e = true → listed.getD e.on false = true := by
  unfold Region.ready at h
  obtain ⟨h1, h2⟩ := List.mem_filter.1 h
  simp only [Bool.and_eq_true] at h2
  obtain ⟨-, h3⟩ := h2
  cases ho : ops[i]? with
  | none => rw [ho] at h3; cases h3
  | some o =>
    rw [ho] at h3
    simp only [Option.map_some, Option.getD_some] at h3
    refine ⟨o, rfl, fun e he hb => ?_⟩
    have := Array.all_eq_true'.1 h3 e (by simpa using he)
    simpa [hb] using this
/-! ## The rule with the operations in a list, each with its own fact -/
inductive AllFrom (E : Nat → Oper → Prop) : Nat → List Oper → Prop
  | nil {k : Nat} : AllFrom E k []
  | cons {k : Nat} {o : Oper} {l : List Oper} : E k o → AllFrom E (k + 1) l → AllFrom E k (o :: l)
theorem AllFrom.at_ {E : Nat → Oper → Prop} {k : Nat} {l : List Oper} (h : AllFrom E k l) : ∀ (j : Nat) (o : Oper), l[j]? = some o → E (k + j) o := by
  induction h with
  | nil => intro j o h; simp at h
  | cons h0 _ ih =>
    intro j o h
    cases j with
    | zero => simp at h; subst h; exact h0
    | succ j => have := ih j o (by simpa using h); rwa [show ∀ k : Nat, k + 1 + j = k + (j + 1) from fun k => by omega] at this
def nth {α : Type} : List α → Nat → α → α
  | [], _, d => d
  | x :: _, 0, _ => x
  | _ :: l, n + 1, d => nth l n d
abbrev Fact := Value → World → Prop
/-- The facts of the operations, in their order. -/
def facts (Fs : List Fact) (j : Nat) (v : Value) (w : World) : Prop := nth Fs j (fun _ _ => True) v w
def factsMono : List Fact → Prop
  | [] => True
  | f :: l => (∀ v w w', f v w → Ext w w' → f v w') ∧ factsMono l
theorem facts_mono : ∀ {Fs : List Fact}, factsMono Fs → ∀ j v w w', facts Fs j v w → Ext w w' → facts Fs j v w'
  | [], _, j, v, w, w', _, _ => by unfold facts nth; trivial
  | f :: l, h, 0, v, w, w', hv, hx => h.1 v w w' hv hx
  | f :: l, h, j + 1, v, w, w', hv, hx => facts_mono (Fs := l) h.2 j v w w' hv hx
abbrev isV (V : Value) : Fact := fun v _ => v = V
theorem isV_mono {V : Value} : ∀ (v : Value) (w w' : World), isV V v w → Ext w w' → isV V v w' := fun _ _ _ h _ => h
def dstIs (ops : Array Oper) (i d : Nat) : Bool := match ops[i]? with | some o => o.dst == some d | none => false
theorem dstIs_spec {ops : Array Oper} {i d : Nat} (h : dstIs ops i d = true) : ∃ o, ops[i]? = some o ∧ o.dst = some d := by
  unfold dstIs at h
  cases ho : ops[i]? with
  | none => rw [ho] at h; cases h
  | some o => rw [ho] at h; exact ⟨o, rfl, by simpa using h⟩
def freeSlot (ops : Array Oper) (s : Nat) : Bool := ops.all fun o => !(o.dst == some s)
theorem freeSlot_spec {ops : Array Oper} {s : Nat} (h : freeSlot ops s = true) : ∀ (j : Nat) (o : Oper), ops[j]? = some o → o.dst ≠ some s := fun j o ho => by
  have := (Array.all_eq_true_iff_forall_mem.1 h) o (Array.mem_of_getElem? ho)
  simpa using this
def waitsFor (o : Oper) (i : Nat) : Bool := o.after.any fun e => e.on == i && Region.binds .any e
theorem waitsFor_spec {o : Oper} {i : Nat} {listed : Array Bool} (h : waitsFor o i = true) (hd : ∀ e ∈ o.after.toList, Region.binds .any e = true → listed.getD e.on false = true) : listed.getD i false = true := by
  obtain ⟨e, he, h2⟩ := Array.any_eq_true'.1 h
  simp only [Bool.and_eq_true, beq_iff_eq] at h2
  rw [← h2.1]; exact hd e (by simpa using he) h2.2
theorem wanted_free {ops : Array Oper} {o : Oper} {tmps : Array Value} (hg : o.guard = none) : Region.wanted o (yielded ops tmps) = true := by
  unfold Region.wanted; rw [hg]
theorem wpOp_skip' {P : Program} {ops : Array Oper} {Q : Exit → Act → World → Prop} {i : Nat} {o : Oper} {K : Act → World → Prop} {a : Act} {w : World} (ho : ops[i]? = some o) (h1 : Region.wanted o (yielded ops a.tmps) = false) (h2 : K (a.put o.dst undef) w) : wpOp P ops Q i K a w := by
  unfold wpOp
  rw [ho]
  show if Region.wanted o (yielded ops a.tmps) = true then _ else _
  rw [if_neg (by rw [h1]; decide)]; exact h2
/-! ## The same for the first m operations of a region; the state behind them is written out -/
def putAll : Act → List Oper → List Value → Act
  | a, o :: os, v :: vs => putAll (a.put o.dst v) os vs
  | a, _, _ => a
theorem Act.put_size (a : Act) (d : Option Tmp) (v : Value) : (a.put d v).tmps.size = a.tmps.size := by cases d <;> simp [Act.put]
theorem Act.put_defers' (a : Act) (d : Option Tmp) (v : Value) : (a.put d v).defers = a.defers := by cases d <;> rfl
theorem eq_putAll {a : Act} : ∀ {os : List Oper} {vs : List Value} {a0 : Act}, vs.length = os.length → a.tmps.size = a0.tmps.size → a.defers = a0.defers →
    (∀ s : Nat, (∀ o ∈ os, o.dst ≠ some s) → a.tmps[s]? = a0.tmps[s]?) → (∀ (j : Nat) (o : Oper) (d : Nat), os[j]? = some o → o.dst = some d → d < a0.tmps.size ∧ ∃ v, vs[j]? = some v ∧ a.tmps[d]? = some v) → a = putAll a0 os vs
  | [], [], a0, _, _, hd, hb, _ => by
    obtain ⟨t, d⟩ := a
    obtain ⟨t0, d0⟩ := a0
    simp only [putAll]
    have h1 : t = t0 := Array.ext_getElem? fun s => hb s (fun o h => by cases h)
    have h2 : d = d0 := hd
    rw [h1, h2]
  | o :: os, v :: vs, a0, hl, hsz, hd, hb, hs => by
    simp only [putAll]
    refine eq_putAll (by simpa using hl) (by rw [Act.put_size]; exact hsz) (by rw [Act.put_defers']; exact hd) (fun s h => ?_) (fun j o' d' hj hd' => ?_)
    · cases ho : o.dst with
      | none => exact hb s (fun o' h' => by
          rcases List.mem_cons.1 h' with rfl | h'
          · rw [ho]; simp
          · exact h o' h')
      | some d =>
        obtain ⟨h1, v', h2, h3⟩ := hs 0 o d (by simp) ho
        simp only [List.getElem?_cons_zero, Option.some.injEq] at h2
        subst h2
        by_cases e : d = s
        · subst e
          rw [h3]; simp [Act.put, Array.getElem?_setIfInBounds_self_of_lt h1]
        · rw [hb s (fun o' h' => by
            rcases List.mem_cons.1 h' with rfl | h'
            · rw [ho]; simpa using e
            · exact h o' h')]
          simp [Act.put, Array.getElem?_setIfInBounds_ne e]
    · obtain ⟨h1, v', h2, h3⟩ := hs (j + 1) o' d' (by simpa using hj) hd'
      exact ⟨by rw [Act.put_size]; exact h1, v', by simpa using h2, h3⟩
def ForFacts : List Fact → World → (List Value → Prop) → Prop
  | [], _, K => K []
  | f :: l, w, K => ∀ v, f v w → ForFacts l w (fun vs => K (v :: vs))
theorem forFacts_get {a : Act} {w : World} : ∀ {os : List Oper} {Fs : List Fact} {K : List Value → Prop}, Fs.length = os.length → ForFacts Fs w K →
    (∀ (j : Nat) (o : Oper), os[j]? = some o → ∃ d v, o.dst = some d ∧ a.tmps[d]? = some v ∧ facts Fs j v w) →
    ∃ vs : List Value, vs.length = os.length ∧ K vs ∧ ∀ (j : Nat) (o : Oper) (d : Nat), os[j]? = some o → o.dst = some d → ∃ v, vs[j]? = some v ∧ a.tmps[d]? = some v
  | [], [], K, _, hK, _ => ⟨[], rfl, hK, fun j o d h => by simp at h⟩
  | o :: os, f :: Fs, K, hl, hK, h => by
    obtain ⟨d, v, h1, h2, h3⟩ := h 0 o (by simp)
    obtain ⟨vs, g1, g2, g3⟩ := forFacts_get (by simpa using hl) (hK v h3) (fun j o' hj => h (j + 1) o' (by simpa using hj))
    refine ⟨v :: vs, by simpa using g1, g2, fun j o' d' hj hd => ?_⟩
    cases j with
    | zero =>
      simp only [List.getElem?_cons_zero, Option.some.injEq] at hj; subst hj
      rw [h1] at hd; injection hd with hd; subst hd
      exact ⟨v, by simp, h2⟩
    | succ j => simpa using g3 j o' d' (by simpa using hj) hd
/-- One operation of the front. -/
def StepOK3 (P : Program) (ops : Array Oper) (m : Nat) (Q : Exit → Act → World → Prop) (W0 : World) (a0 : Act) (F : Nat → Value → World → Prop) (j : Nat) (o : Oper) : Prop :=
  ∀ (a : Act) (w : World), Ext W0 w →
    (∀ i d, waitsFor o i = true → dstIs ops i d = true → ∃ v, a.tmps[d]? = some v ∧ F i v w) →
    (∀ s, freeSlot (ops.toList.take m).toArray s = true → a.tmps[s]? = a0.tmps[s]?) →
    (Region.wanted o (yielded ops a.tmps) = true ∧ ∀ K : Act → World → Prop, (∀ v w', F j v w' → Ext w w' → K (a.put o.dst v) w') → Oper.wp P o a w K Q) ∨ (Region.wanted o (yielded ops a.tmps) = false ∧ F j undef w)
/-- Each operation behind the first m waits for all of them. -/
def sufOK (ops : Array Oper) (m : Nat) : Bool := (List.range ops.size).all fun i => decide (i < m) || match ops[i]? with | some o => (List.range m).all (waitsFor o) | none => true
def preL (m n : Nat) : Array Bool := (List.replicate m true ++ List.replicate n false).toArray
theorem listed_pre {listed : Array Bool} {m n : Nat} (hs : listed.size = m + n) (h1 : ∀ j : Nat, j < m → listed.getD j false = true) (h2 : ∀ j : Nat, m ≤ j → listed.getD j false = false) : listed = preL m n := by
  refine Array.ext_getElem? fun j => ?_
  have e0 : (preL m n)[j]? = (List.replicate m true ++ List.replicate n false)[j]? := List.getElem?_toArray
  rw [e0, List.getElem?_append, List.length_replicate, List.getElem?_replicate, List.getElem?_replicate]
  by_cases hj : j < m
  · have := h1 j hj
    rw [if_pos hj, if_pos hj]
    have hlt : j < listed.size := by omega
    simp only [Array.getD, hlt, dif_pos] at this
    rw [Array.getElem?_eq_getElem hlt]; exact congrArg some this
  · rw [if_neg hj]
    by_cases hlt : j < listed.size
    · have := h2 j (by omega)
      simp only [Array.getD, hlt, dif_pos] at this
      rw [Array.getElem?_eq_getElem hlt, if_pos (by omega)]; exact congrArg some this
    · rw [Array.getElem?_eq_none (by omega), if_neg (by omega)]
theorem count_true_pre {listed : Array Bool} {m n : Nat} (hs : listed.size = m + n) (hc : listed.toList.count false ≤ n) (h2 : ∀ j : Nat, m ≤ j → listed.getD j false = false) : ∀ j : Nat, j < m → listed.getD j false = true := by
  intro j hj
  have hlt : j < listed.size := by omega
  have hl : listed.toList.length = m + n := by simpa using hs
  have e : listed.toList = listed.toList.take m ++ listed.toList.drop m := (List.take_append_drop m _).symm
  have hd : (listed.toList.drop m).count false = n := by
    have : ∀ x ∈ listed.toList.drop m, x = false := by
      intro x hx
      obtain ⟨k, hk, rfl⟩ := List.mem_iff_getElem.1 hx
      rw [List.getElem_drop]
      have hk' : m + k < listed.size := by simp only [List.length_drop, Array.length_toList] at hk; omega
      have := h2 (m + k) (by omega)
      simpa [Array.getD, hk'] using this
    rw [List.count_eq_length.2 (fun x hx => (this x hx).symm)]; simp; omega
  rw [e, List.count_append, hd] at hc
  have h0 : (listed.toList.take m).count false = 0 := by omega
  have hn := List.count_eq_zero.1 h0
  have hx : listed[j] = true := by
    cases hh : listed[j] with
    | true => rfl
    | false => exact absurd (List.mem_iff_getElem.2 ⟨j, by simp; omega, by rw [List.getElem_take]; simpa using hh⟩) hn
  simp [Array.getD, hlt, hx]
theorem wpAny_inv_pre {P : Program} {ops : Array Oper} {Q : Exit → Act → World → Prop} {m n : Nat} (hsz : ops.size = m + n) (hsuf : sufOK ops m = true) (I : Array Bool → Act → World → Prop)
    (step : ∀ listed a w i, listed.size = ops.size → I listed a w → i < m → i ∈ Region.ready .any ops listed → wpOp P ops Q i (I (listed.setIfInBounds i true)) a w)
    (ready : ∀ listed a w, listed.size = ops.size → I listed a w → Region.ready .any ops listed = [] → ∀ j : Nat, j < m → listed.getD j false = true)
    (rest : ∀ a w, I (preL m n) a w → wpAny P .any ops Q n (preL m n) a w) :
    ∀ (k : Nat) (listed : Array Bool) (a : Act) (w : World), listed.size = ops.size → listed.toList.count false = n + k → (∀ j : Nat, m ≤ j → listed.getD j false = false) → I listed a w → wpAny P .any ops Q (n + k) listed a w
  | 0, listed, a, w, hs, hc, h2, hI => by
    have := listed_pre (m := m) (n := n) (by omega) (count_true_pre (m := m) (n := n) (by omega) (by omega) h2) h2
    subst this
    exact rest a w hI
  | k + 1, listed, a, w, hs, hc, h2, hI => by
    have hnot : ¬ ∀ j : Nat, j < m → listed.getD j false = true := by
      intro h
      have e := listed_pre (m := m) (n := n) (by omega) h h2
      rw [e] at hc
      simp [preL, List.count_append, List.count_replicate] at hc
    show wpAny P .any ops Q ((n + k) + 1) listed a w
    refine ⟨fun hr => absurd (ready listed a w hs hI hr) hnot, fun i hi => ?_⟩
    have hi2 := hi
    have him : i < m := by
      rcases Nat.lt_or_ge i m with q | q
      · exact q
      · exfalso; apply hnot
        obtain ⟨o, ho, hdep⟩ := ready_of hi
        have h3 := List.all_eq_true.1 hsuf i (List.mem_range.2 (Array.getElem?_eq_some_iff.1 ho).1)
        rw [ho] at h3
        simp only [Bool.or_eq_true, decide_eq_true_eq] at h3
        rcases h3 with h3 | h3
        · omega
        · intro j hj
          exact waitsFor_spec (List.all_eq_true.1 h3 j (List.mem_range.2 hj)) hdep
    refine wpOp_mono (fun a' w' h => wpAny_inv_pre hsz hsuf I step ready rest k _ a' w' (by simpa using hs) ?_ ?_ h) (step listed a w i hs hI him hi)
    · have hm : i < ops.size ∧ listed.getD i true = false := by
        unfold Region.ready at hi2
        obtain ⟨g1, g2⟩ := List.mem_filter.1 hi2
        refine ⟨List.mem_range.1 g1, ?_⟩
        simp only [Bool.and_eq_true, Bool.not_eq_true'] at g2
        exact g2.1
      obtain ⟨g1, g2⟩ := hm
      have hlt : i < listed.size := by omega
      have hx : listed.toList[i]'(by simpa using hlt) = false := by simpa [Array.getD, hlt] using g2
      have := List.count_set (a := true) (b := false) (l := listed.toList) (i := i) (by simpa using hlt)
      simp only [Array.toList_setIfInBounds]
      have hpos : 0 < listed.toList.count false := List.count_pos_iff.2 (by rw [← hx]; exact List.getElem_mem _)
      rw [this, hx]
      have e1 : (if (false == false) = true then 1 else 0) = 1 := rfl
      have e2 : (if (true == false) = true then 1 else 0) = 0 := rfl
      rw [e1, e2]; omega
    · intro j hj
      rw [getD_set_ne false (by omega)]; exact h2 j hj
/-- THE RULE. The first m operations in whatever order, each by its own fact; then the rest, from a state that is written out. -/
theorem wp_flow3 {P : Program} {l : List Oper} {Q : Exit → Act → World → Prop} {id : Nat} {a0 : Act} {W0 : World} (m n : Nat) (Fs : List Fact) (hm : P.follows .mixedOrders = true) (hln : l.length = m + n) (hfl : Fs.length = m)
    (hok : flowOK (l.take m).toArray a0.tmps.size = true) (hsuf : sufOK l.toArray m = true)
    (mono : factsMono Fs) (each : AllFrom (StepOK3 P l.toArray m Q W0 a0 (facts Fs)) 0 (l.take m))
    (rest : ∀ w, Ext W0 w → ForFacts Fs w (fun vs => wpAny P .any l.toArray Q n (preL m n) (putAll a0 (l.take m) vs) w)) : (Code.region id l.toArray true).wp P Q a0 W0 := by
  have hsz : l.toArray.size = m + n := by simpa using hln
  have hlt : (l.take m).length = m := by simp; omega
  have hpo : ∀ i o, i < m → l.toArray[i]? = some o → (l.take m).toArray[i]? = some o := fun i o hi ho => by
    rw [List.getElem?_toArray, List.getElem?_take_of_lt hi]; simpa using ho
  have hdep : ∀ i o e, i < m → l.toArray[i]? = some o → e ∈ o.after.toList → Region.binds .any e = true → e.on < i := fun i o e hi ho he hbd => by
    obtain ⟨d, -, -, -, h4⟩ := flow_dst hok (hpo i o hi ho)
    exact h4 e he hbd
  refine wp_region_any hm ?_
  have key := wpAny_inv_pre (P := P) (Q := Q) hsz hsuf (fun listed a w => listed.size = m + n ∧ Flow W0 a0 (l.take m).toArray (facts Fs) (listed.extract 0 m) a w) ?_ ?_ ?_ m (Array.replicate l.toArray.size false) a0 { W0 with drawn := W0.drawn + 1 } (by simp) ?_ ?_ ?_
  · rw [Nat.add_comm] at key; rw [← hsz] at key; exact key
  · rintro listed a w i hs ⟨hI0, hI⟩ him hi
    obtain ⟨o, ho, hd⟩ := ready_of hi
    have ho' := hpo i o him ho
    have hl : (l.take m)[i]? = some o := by simpa using ho'
    have hst := each.at_ i o hl
    rw [Nat.zero_add] at hst
    have hext : ∀ j : Nat, j < m → (listed.extract 0 m).getD j false = listed.getD j false := fun j hj => by
      rw [Array.getD_eq_getD_getElem?, Array.getD_eq_getD_getElem?, Array.getElem?_extract, if_pos (by omega), Nat.zero_add]
    have hset : (listed.setIfInBounds i true).extract 0 m = (listed.extract 0 m).setIfInBounds i true := by
      refine Array.ext_getElem? fun j => ?_
      rw [Array.getElem?_extract]
      by_cases hj : j < m
      · rw [if_pos (by simp; omega), Nat.zero_add]
        by_cases e : i = j
        · subst e
          rw [Array.getElem?_setIfInBounds_self_of_lt (by omega), Array.getElem?_setIfInBounds_self_of_lt (by simp; omega)]
        · rw [Array.getElem?_setIfInBounds_ne e, Array.getElem?_setIfInBounds_ne e, Array.getElem?_extract, if_pos (by omega), Nat.zero_add]
      · rw [if_neg (by omega), Array.getElem?_eq_none (by simp; omega)]
    rcases hst a w hI.ext (fun i' d hw hd' => by
        obtain ⟨o', h1, h2⟩ := dstIs_spec hd'
        have hi' : i' < i := by
          obtain ⟨e, he, h2⟩ := Array.any_eq_true'.1 hw
          simp only [Bool.and_eq_true, beq_iff_eq] at h2
          rw [← h2.1]; exact hdep i o e him ho (by simpa using he) h2.2
        refine hI.slot i' o' d ?_ (hpo i' o' (by omega) h1) h2
        rw [hext i' (by omega)]; exact waitsFor_spec hw hd) (fun s h => hI.base s (freeSlot_spec h)) with ⟨h1, h2⟩ | ⟨h1, h2⟩
    · refine wpOp_step' ho h1 (h2 _ fun v w' hv hx => ⟨by simpa using hI0, ?_⟩)
      rw [hset]
      exact hI.put hok (facts_mono mono) (by simp; omega) ho' hv hx
    · refine wpOp_skip' ho h1 ⟨by simpa using hI0, ?_⟩
      rw [hset]
      exact hI.put hok (facts_mono mono) (by simp; omega) ho' h2 (Ext.refl _)
  · rintro listed a w hs ⟨hI0, hI⟩ hr
    have : ∀ (k j : Nat), j < k → j < m → listed.getD j false = true := by
      intro k
      induction k with
      | zero => intro j h; omega
      | succ k ih =>
        intro j h1 h2
        by_cases hl : listed.getD j false = true
        · exact hl
        · exfalso
          have hj : l.toArray[j]? = some l.toArray[j] := Array.getElem?_eq_getElem (by omega)
          have hmem : j ∈ Region.ready .any l.toArray listed := by
            unfold Region.ready
            refine List.mem_filter.2 ⟨List.mem_range.2 (by omega), ?_⟩
            rw [hj]
            simp only [Bool.and_eq_true, Option.map_some, Option.getD_some]
            refine ⟨?_, Array.all_eq_true'.2 fun e he => ?_⟩
            · have h2' : j < listed.size := by omega
              simp only [Array.getD, h2', dif_pos] at hl ⊢
              simpa using hl
            · cases hbd : Region.binds .any e with
              | false => rfl
              | true =>
                have he' := hdep j _ e h2 hj (by simpa using he) hbd
                rw [ih e.on (by omega) (by omega)]; rfl
          rw [hr] at hmem; cases hmem
    exact fun j hj => this (j + 1) j (Nat.lt_succ_self j) hj
  · rintro a w ⟨-, hI⟩
    have hx := rest w hI.ext
    obtain ⟨vs, g1, g2, g3⟩ := forFacts_get (a := a) (os := l.take m) (by rw [hfl, hlt]) hx (fun j o hj => by
      obtain ⟨d, h1, h2, -, -⟩ := flow_dst hok (by simpa using hj)
      have hjm : j < m := by have := (List.getElem?_eq_some_iff.1 hj).1; omega
      obtain ⟨v, k1, k2⟩ := hI.slot j o d (by
        rw [Array.getD_eq_getD_getElem?, Array.getElem?_extract]
        rw [if_pos (by simp [preL]; omega)]
        simp [preL, List.getElem?_append, hjm]) (by simpa using hj) h1
      exact ⟨d, v, h1, k1, k2⟩)
    have ha : a = putAll a0 (l.take m) vs := eq_putAll g1 hI.size hI.defers (fun s hs => hI.base s (fun j o ho => hs o (by
        have : (l.take m)[j]? = some o := by simpa using ho
        exact List.mem_of_getElem? this))) (fun j o d hj hd => by
      obtain ⟨d', h1, h2, -, -⟩ := flow_dst hok (j := j) (by simpa using hj)
      rw [hd] at h1; injection h1 with h1; subst h1
      exact ⟨h2, g3 j o d hj hd⟩)
    rw [ha]; exact g2
  · rw [Array.toList_replicate, List.count_replicate]; simp; omega
  · intro j hj
    rw [Array.getD_eq_getD_getElem?, Array.getElem?_replicate]
    split <;> rfl
  · exact ⟨by simpa using hsz, ⟨(Ext.refl W0).drew, rfl, rfl, fun s _ => rfl, fun j o d h _ _ => by
      rw [Array.getD_eq_getD_getElem?, Array.getElem?_extract] at h
      split at h
      · rw [Array.getElem?_replicate] at h; split at h <;> cases h
      · cases h⟩⟩
end Go.Proofs.Ytlafiddfplhafaa
/- SameRows walked. -/
namespace Go.Proofs.Ytlafiddfplhafaa
set_option linter.unusedVariables false
set_option linter.unusedSimpArgs false
open Go.RowKit
set_option maxHeartbeats 2000000 in
theorem sameRows_any (A B : Option Addr) (n m c d : Nat) (xs ys : List (List Int)) (w : World) (h : SlRows w A n xs) (h' : SlRows w B m ys) (hn : n ≤ maxLen) (hm : m ≤ maxLen) :
    Calls Try.prog 13 #[.slice A n c, .slice B m d] w fun e w' => e = .returned (.bool (decide (xs = ys))) ∧ Ext w w' := by
  generalize hM : decide (xs = ys) = M
  have hxl := h.1; have hyl := h'.1
  have H := Lib.hid h; have H' := Lib.hid h'; have HM := Lib.hid hM
  unfold maxLen at hn hm
  clear h h' hM
  by_cases hnm : n = m
  · subst hnm
    go_enter Try.func13, Try.ntmps13
    go_wp2_with fail
    go_loopw [5] (fun j wr => ∃ k : Nat, k ≤ n ∧ j = .int .i64 k ∧ Ext w wr ∧ decide (xs.drop k = ys.drop k) = M) (fun j _ => n - (intOf j).toNat)
    case atStart => exact ⟨0, Nat.zero_le _, rfl, Ext.refl _, by simpa using HM.out⟩
    case round =>
      obtain ⟨k, hk, rfl, hext, hR⟩ := hrel
      by_cases hlt : k < n
      · have hx : xs[k]? = some xs[k] := List.getElem?_eq_getElem (by omega)
        have hy : ys[k]? = some ys[k] := List.getElem?_eq_getElem (by omega)
        rw [List.drop_eq_getElem_cons (show k < xs.length by omega), List.drop_eq_getElem_cons (show k < ys.length by omega)] at hR
        generalize xs[k] = x at hx hR
        generalize ys[k] = y at hy hR
        obtain ⟨b1, o1, A1', c1, rfl, hc1, hs1, l1, m1⟩ := H.out.2 k x hx
        obtain ⟨b2, o2, A2, c2, rfl, hc2, hs2, l2, m2⟩ := H'.out.2 k y hy
        have C1 := Lib.hid (hext.keeps _ _ hc1); have C2 := Lib.hid (hext.keeps _ _ hc2); have S1 := Lib.hid (hs1.keep hext.keeps); have S2 := Lib.hid (hs2.keep hext.keeps)
        have L1 := Lib.hid (Nat.le_trans l1 m1); have L2 := Lib.hid (Nat.le_trans l2 m2)
        have HR := Lib.hid hR; have HE := Lib.hid hext
        clear hc1 hc2 hs1 hs2 hR hext hx hy l1 l2 m1 m2
        by_cases hxy : x = y
        · subst hxy
          go_wp2_with fail
          refine wp_flow3 10 0 [isV (.slice (some ⟨b1, o1, none⟩) n c), isV (.int .i64 k), isV (.pointer (some ⟨b1, o1 + k, none⟩)), isV (.slice A1' x.length c1), isV (.slice (some ⟨b2, o2, none⟩) n d), isV (.int .i64 k), isV (.pointer (some ⟨b2, o2 + k, none⟩)), isV (.slice A2 x.length c2), isV (.bool true), isV (.bool false)] (by kernel_rfl) rfl rfl (by kernel_rfl) (by kernel_rfl) ⟨isV_mono, isV_mono, isV_mono, isV_mono, isV_mono, isV_mono, isV_mono, isV_mono, isV_mono, isV_mono, trivial⟩ ?each ?rest
          case each =>
            refine .cons ?_ (.cons ?_ (.cons ?_ (.cons ?_ (.cons ?_ (.cons ?_ (.cons ?_ (.cons ?_ (.cons ?_ (.cons ?_ (.nil))))))))))
            · intro fa fw hx hs hb
              have s0 : fa.tmps[(0 : Nat)]? = some (.slice (some ⟨b1, o1, none⟩) n c) := (hb 0 (by kernel_rfl)).trans (by rfl)
              refine .inl ⟨wanted_free rfl, fun K hK => ?_⟩
              clear hs hb hx
              go_simp
              exact hK _ _ rfl (Ext.refl _)
            · intro fa fw hx hs hb
              have s5 : fa.tmps[(5 : Nat)]? = some (.int .i64 k) := (hb 5 (by kernel_rfl)).trans (by rfl)
              refine .inl ⟨wanted_free rfl, fun K hK => ?_⟩
              clear hs hb hx
              go_simp
              exact hK _ _ rfl (Ext.refl _)
            · intro fa fw hx hs hb
              obtain ⟨_, s17, rfl⟩ := hs 0 17 (by kernel_rfl) (by kernel_rfl)
              obtain ⟨_, s18, rfl⟩ := hs 1 18 (by kernel_rfl) (by kernel_rfl)
              refine .inl ⟨wanted_free rfl, fun K hK => ?_⟩
              clear hs hb hx
              go_simp
              exact hK _ _ rfl (Ext.refl _)
            · intro fa fw hx hs hb
              obtain ⟨_, s19, rfl⟩ := hs 2 19 (by kernel_rfl) (by kernel_rfl)
              have c0 := hx.keeps _ _ C1.out
              refine .inl ⟨wanted_free rfl, fun K hK => ?_⟩
              clear hs hb hx
              go_simp
              exact hK _ _ rfl (Ext.refl _)
            · intro fa fw hx hs hb
              have s1 : fa.tmps[(1 : Nat)]? = some (.slice (some ⟨b2, o2, none⟩) n d) := (hb 1 (by kernel_rfl)).trans (by rfl)
              refine .inl ⟨wanted_free rfl, fun K hK => ?_⟩
              clear hs hb hx
              go_simp
              exact hK _ _ rfl (Ext.refl _)
            · intro fa fw hx hs hb
              have s5 : fa.tmps[(5 : Nat)]? = some (.int .i64 k) := (hb 5 (by kernel_rfl)).trans (by rfl)
              refine .inl ⟨wanted_free rfl, fun K hK => ?_⟩
              clear hs hb hx
              go_simp
              exact hK _ _ rfl (Ext.refl _)
            · intro fa fw hx hs hb
              obtain ⟨_, s21, rfl⟩ := hs 4 21 (by kernel_rfl) (by kernel_rfl)
              obtain ⟨_, s22, rfl⟩ := hs 5 22 (by kernel_rfl) (by kernel_rfl)
              refine .inl ⟨wanted_free rfl, fun K hK => ?_⟩
              clear hs hb hx
              go_simp
              exact hK _ _ rfl (Ext.refl _)
            · intro fa fw hx hs hb
              obtain ⟨_, s23, rfl⟩ := hs 6 23 (by kernel_rfl) (by kernel_rfl)
              have c0 := hx.keeps _ _ C2.out
              refine .inl ⟨wanted_free rfl, fun K hK => ?_⟩
              clear hs hb hx
              go_simp
              exact hK _ _ rfl (Ext.refl _)
            · intro fa fw hx hs hb
              obtain ⟨_, s20, rfl⟩ := hs 3 20 (by kernel_rfl) (by kernel_rfl)
              obtain ⟨_, s24, rfl⟩ := hs 7 24 (by kernel_rfl) (by kernel_rfl)
              refine .inl ⟨wanted_free rfl, fun K hK => ?_⟩
              clear hs hb
              go_simp
              refine (sameInts_any A1' A2 x.length x.length c1 c2 x x fw (S1.out.keep hx.keeps) (S2.out.keep hx.keeps) L1.out L2.out).mono ?_
              rintro e w' ⟨rfl, mm, rfl⟩; rw [decide_eq_true rfl]
              exact hK _ _ rfl ((Ext.refl _).drewN _)
            · intro fa fw hx hs hb
              obtain ⟨_, s25, rfl⟩ := hs 8 25 (by kernel_rfl) (by kernel_rfl)
              refine .inl ⟨wanted_free rfl, fun K hK => ?_⟩
              clear hs hb hx
              go_simp
              exact hK _ _ rfl (Ext.refl _)
          case rest =>
            intro w2 hxw2
            rintro _ rfl
            rintro _ rfl
            rintro _ rfl
            rintro _ rfl
            rintro _ rfl
            rintro _ rfl
            rintro _ rfl
            rintro _ rfl
            rintro _ rfl
            rintro _ rfl
            simp only [putAll, List.take, Act.put, List.setIfInBounds_toArray, List.set_cons_zero, List.set_cons_succ]
            refine wpAny_done (by kernel_rfl) ?_ _
            go_wp2
            go_roundw
            case rel => exact ⟨k + 1, by omega, by go_num, HE.out.trans hxw2, by have := HR.out; simpa using this⟩
            case measure => simp [intOf]; omega
        · have HXY := Lib.hid hxy; clear hxy
          go_wp2_with fail
          refine wp_flow3 10 0 [isV (.slice (some ⟨b1, o1, none⟩) n c), isV (.int .i64 k), isV (.pointer (some ⟨b1, o1 + k, none⟩)), isV (.slice A1' x.length c1), isV (.slice (some ⟨b2, o2, none⟩) n d), isV (.int .i64 k), isV (.pointer (some ⟨b2, o2 + k, none⟩)), isV (.slice A2 y.length c2), isV (.bool false), isV (.bool true)] (by kernel_rfl) rfl rfl (by kernel_rfl) (by kernel_rfl) ⟨isV_mono, isV_mono, isV_mono, isV_mono, isV_mono, isV_mono, isV_mono, isV_mono, isV_mono, isV_mono, trivial⟩ ?each ?rest
          case each =>
            refine .cons ?_ (.cons ?_ (.cons ?_ (.cons ?_ (.cons ?_ (.cons ?_ (.cons ?_ (.cons ?_ (.cons ?_ (.cons ?_ (.nil))))))))))
            · intro fa fw hx hs hb
              have s0 : fa.tmps[(0 : Nat)]? = some (.slice (some ⟨b1, o1, none⟩) n c) := (hb 0 (by kernel_rfl)).trans (by rfl)
              refine .inl ⟨wanted_free rfl, fun K hK => ?_⟩
              clear hs hb hx
              go_simp
              exact hK _ _ rfl (Ext.refl _)
            · intro fa fw hx hs hb
              have s5 : fa.tmps[(5 : Nat)]? = some (.int .i64 k) := (hb 5 (by kernel_rfl)).trans (by rfl)
              refine .inl ⟨wanted_free rfl, fun K hK => ?_⟩
              clear hs hb hx
              go_simp
              exact hK _ _ rfl (Ext.refl _)
            · intro fa fw hx hs hb
              obtain ⟨_, s17, rfl⟩ := hs 0 17 (by kernel_rfl) (by kernel_rfl)
              obtain ⟨_, s18, rfl⟩ := hs 1 18 (by kernel_rfl) (by kernel_rfl)
              refine .inl ⟨wanted_free rfl, fun K hK => ?_⟩
              clear hs hb hx
              go_simp
              exact hK _ _ rfl (Ext.refl _)
            · intro fa fw hx hs hb
              obtain ⟨_, s19, rfl⟩ := hs 2 19 (by kernel_rfl) (by kernel_rfl)
              have c0 := hx.keeps _ _ C1.out
              refine .inl ⟨wanted_free rfl, fun K hK => ?_⟩
              clear hs hb hx
              go_simp
              exact hK _ _ rfl (Ext.refl _)
            · intro fa fw hx hs hb
              have s1 : fa.tmps[(1 : Nat)]? = some (.slice (some ⟨b2, o2, none⟩) n d) := (hb 1 (by kernel_rfl)).trans (by rfl)
              refine .inl ⟨wanted_free rfl, fun K hK => ?_⟩
              clear hs hb hx
              go_simp
              exact hK _ _ rfl (Ext.refl _)
            · intro fa fw hx hs hb
              have s5 : fa.tmps[(5 : Nat)]? = some (.int .i64 k) := (hb 5 (by kernel_rfl)).trans (by rfl)
              refine .inl ⟨wanted_free rfl, fun K hK => ?_⟩
              clear hs hb hx
              go_simp
              exact hK _ _ rfl (Ext.refl _)
            · intro fa fw hx hs hb
              obtain ⟨_, s21, rfl⟩ := hs 4 21 (by kernel_rfl) (by kernel_rfl)
              obtain ⟨_, s22, rfl⟩ := hs 5 22 (by kernel_rfl) (by kernel_rfl)
              refine .inl ⟨wanted_free rfl, fun K hK => ?_⟩
              clear hs hb hx
              go_simp
              exact hK _ _ rfl (Ext.refl _)
            · intro fa fw hx hs hb
              obtain ⟨_, s23, rfl⟩ := hs 6 23 (by kernel_rfl) (by kernel_rfl)
              have c0 := hx.keeps _ _ C2.out
              refine .inl ⟨wanted_free rfl, fun K hK => ?_⟩
              clear hs hb hx
              go_simp
              exact hK _ _ rfl (Ext.refl _)
            · intro fa fw hx hs hb
              obtain ⟨_, s20, rfl⟩ := hs 3 20 (by kernel_rfl) (by kernel_rfl)
              obtain ⟨_, s24, rfl⟩ := hs 7 24 (by kernel_rfl) (by kernel_rfl)
              refine .inl ⟨wanted_free rfl, fun K hK => ?_⟩
              clear hs hb
              go_simp
              refine (sameInts_any A1' A2 x.length y.length c1 c2 x y fw (S1.out.keep hx.keeps) (S2.out.keep hx.keeps) L1.out L2.out).mono ?_
              rintro e w' ⟨rfl, mm, rfl⟩; rw [decide_eq_false HXY.out]
              exact hK _ _ rfl ((Ext.refl _).drewN _)
            · intro fa fw hx hs hb
              obtain ⟨_, s25, rfl⟩ := hs 8 25 (by kernel_rfl) (by kernel_rfl)
              refine .inl ⟨wanted_free rfl, fun K hK => ?_⟩
              clear hs hb hx
              go_simp
              exact hK _ _ rfl (Ext.refl _)
          case rest =>
            intro w2 hxw2
            rintro _ rfl
            rintro _ rfl
            rintro _ rfl
            rintro _ rfl
            rintro _ rfl
            rintro _ rfl
            rintro _ rfl
            rintro _ rfl
            rintro _ rfl
            rintro _ rfl
            simp only [putAll, List.take, Act.put, List.setIfInBounds_toArray, List.set_cons_zero, List.set_cons_succ]
            refine wpAny_done (by kernel_rfl) ?_ _
            go_wp2
            go_ret
            exact ⟨ret_bool (by rw [← HR.out]; simp [HXY.out]), HE.out.trans hxw2⟩
      · have hkn : k = n := by omega
        rw [List.drop_eq_nil_of_le (by omega), List.drop_eq_nil_of_le (by omega)] at hR
        have HR := Lib.hid hR; clear hR
        go_wp2
        go_ret
        exact ⟨ret_bool (by rw [← HR.out]; simp), hext⟩
  · have hne : ((n : Int) != (m : Int)) = true := by simp; omega
    have hxy : M = false := by rw [← HM.out]; simp; intro e; rw [e] at hxl; omega
    have HF := Lib.hid hxy; clear hxy
    go_enter Try.func13, Try.ntmps13
    go_wp2
    go_ret
    exact ⟨ret_bool HF.out.symm, Ext.refl _⟩
end Go.Proofs.Ytlafiddfplhafaa
/- A row of one-cell elements of the call's own that may begin within its block: a queue. No program in sight. -/
namespace Go.Proofs.Ytlafiddfplhafaa
set_option linter.unusedVariables false
set_option linter.unusedSimpArgs false
open Go.RowKit
theorem frozen_keep {w w' w2 : World} {p : Addr} {u : Value} {row : Option Nat} (hg : w'.grownBy w2 row) (hx : Ext w w') (hc : w.cell? p = some u) (hne : some p.block ≠ row) : w2.frozen? p = w.frozen? p :=
  (World.frozen?_of_block (hg.block p.block (Nat.lt_of_lt_of_le (lt_of_cell hc) hx.size) hne)).trans (World.frozen?_of_block (hx.block p.block (lt_of_cell hc)))
/-- All that was there is as it was, but for two blocks; new memory may have come. -/
structure Aside (g1 g2 : Nat) (w w' : World) : Prop where
  os : w'.os = w.os
  tape : w'.tape = w.tape
  output : w'.output = w.output
  size : w.heap.size ≤ w'.heap.size
  block : ∀ k, k < w.heap.size → k ≠ g1 → k ≠ g2 → w'.heap[k]? = w.heap[k]?
section
variable {g1 g2 : Nat} {a b c : World}
theorem Aside.refl (g1 g2 : Nat) (w : World) : Aside g1 g2 w w := ⟨rfl, rfl, rfl, Nat.le_refl _, fun _ _ _ _ => rfl⟩
theorem Aside.more (h : Aside g1 g2 a b) (k : Ext b c) : Aside g1 g2 a c :=
  ⟨k.os.trans h.os, k.tape.trans h.tape, k.output.trans h.output, Nat.le_trans h.size k.size, fun i hi h1 h2 => (k.block i (Nat.lt_of_lt_of_le hi h.size)).trans (h.block i hi h1 h2)⟩
theorem Aside.set1 (h : Aside g1 g2 a b) (j : Nat) (v : Value) : Aside g1 g2 a (b.setCell ⟨g1, j, none⟩ v) :=
  ⟨h.os, h.tape, h.output, by simpa using h.size, fun i hi h1 h2 => by rw [heap_setCell_other b ⟨g1, j, none⟩ i v h1]; exact h.block i hi h1 h2⟩
theorem Aside.grown {row : Option Nat} (h : Aside g1 g2 a b) (hg : b.grownBy c row) (hr : ∀ k, row = some k → k = g2 ∨ a.heap.size ≤ k) : Aside g1 g2 a c :=
  ⟨hg.os.trans h.os, hg.tape.trans h.tape, hg.output.trans h.output, Nat.le_trans h.size hg.size, fun i hi h1 h2 => (hg.block i (Nat.lt_of_lt_of_le hi h.size) (fun e => by rcases hr i e.symm with q | q <;> omega)).trans (h.block i hi h1 h2)⟩
theorem Aside.cell (h : Aside g1 g2 a b) {p : Addr} {u : Value} (hc : a.cell? p = some u) (h1 : p.block ≠ g1) (h2 : p.block ≠ g2) : b.cell? p = some u :=
  (World.cell?_of_block (h.block p.block (lt_of_cell hc) h1 h2)).trans hc
theorem Aside.ext {w0 : World} (h : Aside g1 g2 a b) (e : Ext w0 a) (h1 : w0.heap.size ≤ g1) (h2 : w0.heap.size ≤ g2) : Ext w0 b :=
  ⟨h.os.trans e.os, h.tape.trans e.tape, h.output.trans e.output, Nat.le_trans e.size h.size, fun i hi => (h.block i (Nat.lt_of_lt_of_le hi e.size) (by omega) (by omega)).trans (e.block i hi)⟩
end
theorem Sl.aside {g1 g2 : Nat} {a b : World} {A : Option Addr} {n : Nat} {cs : List Value} (h : Sl a A n cs) (k : Aside g1 g2 a b) (hA : ∀ p, A = some p → p.block ≠ g1 ∧ p.block ≠ g2) : Sl b A n cs :=
  ⟨h.1, fun j u hu => let ⟨q, o, e, hc⟩ := h.2 j u hu; ⟨q, o, e, k.cell hc (hA _ e).1 (hA _ e).2⟩⟩
theorem set_same {α : Type} {l : List α} {j : Nat} {x : α} (h : l[j]? = some x) : l.set j x = l := by
  refine List.ext_getElem? fun i => ?_
  rw [List.getElem?_set]
  by_cases e : j = i
  · subst e; rw [if_pos rfl, if_pos (List.getElem?_eq_some_iff.1 h).1, h]
  · rw [if_neg e]
theorem grownBy_set (w : World) (g j : Nat) (v : Value) : w.grownBy (w.setCell ⟨g, j, none⟩ v) (some g) :=
  ⟨rfl, rfl, rfl, by simp, fun i _ hi => heap_setCell_other w ⟨g, j, none⟩ i v (fun e => hi (by simp [e]))⟩
theorem pick_block {s : Value} {gv lo hi B : Nat} (h1 : s.ownBlock ≠ some gv) (h2 : ∀ b, s.ownBlock = some b → B ≤ b ∧ b < lo) (hgv : gv < hi) (hB : B ≤ hi) :
    ∃ b0, (∀ b, s.ownBlock = some b → b = b0) ∧ b0 ≠ gv ∧ B ≤ b0 ∧ ∀ j, lo ≤ j → j < hi → j ≠ b0 := by
  cases hb : s.ownBlock with
  | none => exact ⟨hi, fun b e => by simp at e, by omega, hB, fun j _ h => by omega⟩
  | some b =>
    have := h2 b hb
    exact ⟨b, fun b' e => (Option.some.inj e).symm, fun e => h1 (by rw [hb, e]), this.1, fun j h _ => by omega⟩
def OwnQ (w : World) (base : Nat) (e : TypeId) (v : Value) (xs : List Value) : Prop :=
  (v = .slice none 0 0 ∧ xs = []) ∨ ∃ g off cap cur, v = .slice (some ⟨g, off, none⟩) xs.length cap ∧ base ≤ g ∧ w.heap[g]? = some (.cells cur e (0, 0)) ∧ xs.length ≤ cap ∧ cap ≤ maxLen ∧ off + cap ≤ cur.size ∧ (cur.toList.drop off).take xs.length = xs
section
variable {w w' : World} {base : Nat} {e : TypeId} {v : Value} {n : Nat} {xs : List Value}
theorem OwnQ.of_own (h : w.ownsRow base e 1 v n xs) : OwnQ w base e v xs := by
  rcases h with ⟨hl, ⟨rfl, rfl⟩ | ⟨g, cap, cur, rfl, hb, hg, hnc, hm, hcs, ht⟩⟩
  · exact .inl ⟨rfl, List.eq_nil_of_length_eq_zero (by simpa using hl)⟩
  · have hn : xs.length = n := by omega
    refine .inr ⟨g, 0, cap, cur, by rw [hn], hb, hg, by omega, hm, by omega, ?_⟩
    rw [List.drop_zero, hn]; simpa using ht
theorem OwnQ.lt (h : OwnQ w base e v xs) : ∀ k, v.ownBlock = some k → base ≤ k ∧ k < w.heap.size := by
  intro k hk
  rcases h with ⟨rfl, _⟩ | ⟨g, off, cap, cur, rfl, hb, hg, _⟩
  · simp [Value.ownBlock] at hk
  · simp [Value.ownBlock] at hk
    subst hk
    exact ⟨hb, (Array.getElem?_eq_some_iff.1 hg).1⟩
theorem OwnQ.kept {row : Option Nat} (h : OwnQ w base e v xs) (hg : w.grownBy w' row) (hne : v.ownBlock = none ∨ v.ownBlock ≠ row) : OwnQ w' base e v xs := by
  rcases h with h | ⟨g, off, cap, cur, rfl, hb, hgg, rest⟩
  · exact .inl h
  · refine .inr ⟨g, off, cap, cur, rfl, hb, ?_, rest⟩
    rw [hg.block g (Array.getElem?_eq_some_iff.1 hgg).1 (by simpa [Value.ownBlock] using hne)]
    exact hgg
theorem OwnQ.ext (h : OwnQ w base e v xs) (hx : Ext w w') : OwnQ w' base e v xs := by
  rcases h with h | ⟨g, off, cap, cur, rfl, hb, hgg, rest⟩
  · exact .inl h
  · exact .inr ⟨g, off, cap, cur, rfl, hb, (hx.block g (Array.getElem?_eq_some_iff.1 hgg).1).trans hgg, rest⟩
theorem OwnQ.cell {g off cap : Nat} (h : OwnQ w base e (.slice (some ⟨g, off, none⟩) n cap) xs) : ∀ j u, xs[j]? = some u → w.cell? ⟨g, off + j, none⟩ = some u := by
  intro j u hu
  rcases h with ⟨h0, _⟩ | ⟨g', off', cap', cur, hv, _, hgg, _, _, _, ht⟩
  · cases h0
  · injection hv with h1 _ _
    injection h1 with h1; injection h1 with h1 h2
    subst h1; subst h2
    rw [cell_of_row w g (off + j) cur e (0, 0) hgg]
    rw [← ht, List.getElem?_take] at hu
    split at hu
    · rw [List.getElem?_drop] at hu; simpa using hu
    · cases hu
theorem OwnQ.slice (h : OwnQ w base e v xs) : ∃ A c, v = .slice A xs.length c ∧ xs.length ≤ c ∧ c ≤ maxLen ∧ Sl w A xs.length xs := by
  have h' := h
  rcases h with ⟨rfl, rfl⟩ | ⟨g, off, cap, cur, rfl, _, hgg, hnc, hm, _, _⟩
  · exact ⟨none, 0, rfl, Nat.le_refl _, Nat.zero_le _, Sl.nil _ _⟩
  · exact ⟨_, _, rfl, hnc, hm, rfl, fun k u hu => ⟨g, off, rfl, h'.cell k u hu⟩⟩
/-- The first is taken off. -/
theorem OwnQ.tail {x : Value} (h : OwnQ w base e v (x :: xs)) : ∃ g off c, v = .slice (some ⟨g, off, none⟩) (xs.length + 1) c ∧ xs.length + 1 ≤ c ∧ c ≤ maxLen ∧ w.cell? ⟨g, off, none⟩ = some x ∧
    OwnQ w base e (.slice (some (if c = 1 then ⟨g, off, none⟩ else ⟨g, off + 1, none⟩)) xs.length (c - 1)) xs := by
  have h' := h
  rcases h with ⟨_, h0⟩ | ⟨g, off, cap, cur, rfl, hb, hgg, hnc, hm, hcs, ht⟩
  · cases h0
  · simp only [List.length_cons] at hnc ht ⊢
    refine ⟨g, off, cap, rfl, hnc, hm, by simpa using h'.cell 0 x (by simp), ?_⟩
    by_cases h1 : cap = 1
    · rw [if_pos h1]
      have : xs = [] := List.eq_nil_of_length_eq_zero (by omega)
      subst this
      exact .inr ⟨g, off, cap - 1, cur, rfl, hb, hgg, by simp, by omega, by omega, by simp⟩
    · rw [if_neg h1]
      refine .inr ⟨g, off + 1, cap - 1, cur, rfl, hb, hgg, by omega, by omega, by omega, ?_⟩
      have e1 : cur.toList.drop (off + 1) = (cur.toList.drop off).tail := by rw [List.tail_drop]
      have e2 : ∀ (l : List Value) (n : Nat), l.tail.take n = (l.take (n + 1)).tail := fun l n => by cases l <;> simp
      rw [e1, e2, ht]; rfl
end
/-- append onto such a row. -/
theorem OwnQ.append {P : Program} {w : World} (t ty e : TypeId) {z : Value} {bytes : Nat} (tab : (P.info? e).map (fun i => (i.zero, i.size, i.bytes)) = some (some z, 1, bytes)) (ht : P.underlying t = some (.slice e)) (hzs : z.cells.size = 1) (h8 : bytes ≤ 65536)
    {base : Nat} (hbase : base ≤ w.heap.size) {v : Value} {xs : List Value} (hown : OwnQ w base e v xs) (A : Option Addr) (m c : Nat) (news : List Value) (hr : Sl w A m news) (h1 : ∀ u ∈ news, u.oneCell' = true)
    (hbytes : (xs.length + m) * bytes ≤ 140737489403904) (hm4 : xs.length + m ≤ 9007199254740992) :
    ∃ v' w', (Builtin.append_ #[t, t] ty #[v, .slice A m c]).run P w = .ok v' w' ∧ OwnQ w' base e v' (xs ++ news) ∧ w.grownBy w' v.ownBlock ∧ ∀ k, v'.ownBlock = some k → v.ownBlock = some k ∨ w.heap.size ≤ k := by
  have h63 : xs.length + m ≤ maxLen := by unfold maxLen; omega
  obtain ⟨i, hi, hz, hs1, hs2⟩ := info_parts tab
  rcases Nat.eq_zero_or_pos m with hm0 | hmp
  · subst hm0
    have hn : news = [] := List.eq_nil_of_length_eq_zero hr.1
    subst hn
    refine ⟨v, w, ?_, by simpa using hown, World.grownBy.refl w _, fun k hk => .inl hk⟩
    rcases hown with ⟨rfl, rfl⟩ | ⟨g, off, cap, cur, rfl, _, _, hnc, _⟩
    · simp [Builtin.append_, run_underlying ht, sizeOf, typeInfo, hi, Builtin.lenOf, Builtin.firstCells, loadCells, loadCellsFrom]
      try (cases A <;> simp [Builtin.firstCells, loadCells, loadCellsFrom])
    · simp [Builtin.append_, run_underlying ht, sizeOf, typeInfo, hi, Builtin.lenOf, hnc]
      cases A <;> simp [Builtin.firstCells, loadCells, loadCellsFrom, storeCells]
  obtain ⟨b, off0, rfl⟩ : ∃ b off, A = some ⟨b, off, none⟩ := by
    have hl : 0 < news.length := by rw [hr.1]; exact hmp
    obtain ⟨b, off, e2, _⟩ := hr.2 0 _ (List.getElem?_eq_getElem hl)
    exact ⟨b, off, e2⟩
  have hcells : ∀ j u, news[j]? = some u → w.cell? ((⟨b, off0, none⟩ : Addr).add j) = some u := by
    intro j u hu
    obtain ⟨b', off', e2, hc⟩ := hr.2 j u hu
    injection e2 with e2; injection e2 with e2 e3
    subst e2; subst e3
    rw [add_plain']; exact hc
  have hnl : news.length = m * i.size := by rw [hs1, hr.1]; omega
  have hlen : (xs ++ news).length = xs.length + m := by rw [List.length_append, hr.1]
  have grown : ∀ (old : Nat) (row : Option Nat),
      OwnQ (w.drew.alloc (.cells (xs.toArray ++ news.toArray ++ Builtin.zeroCells z.cells (grownCap w (xs.length + m) old e - (xs.length + m))) e)) base e
        (.slice (some ⟨w.heap.size, 0, none⟩) (xs.length + m) (grownCap w (xs.length + m) old e)) (xs ++ news) ∧
      w.grownBy (w.drew.alloc (.cells (xs.toArray ++ news.toArray ++ Builtin.zeroCells z.cells (grownCap w (xs.length + m) old e - (xs.length + m))) e)) row := by
    intro old row
    have hge := grownCap_ge w (xs.length + m) old e
    refine ⟨.inr ⟨w.heap.size, 0, _, _, by rw [hlen], hbase, heap_alloc_new w.drew _, by rw [hlen]; exact hge, grownCap_le_maxLen w _ old e h63, ?_, ?_⟩, ⟨rfl, rfl, rfl, by simp, fun k hk _ => Below.heap_alloc w.drew _ k hk⟩⟩
    · simp only [Array.size_append, List.size_toArray, size_zeroCells, hzs, hr.1, Nat.mul_one]
      omega
    · simp only [Array.toList_append, List.append_assoc, List.drop_zero]
      rw [← List.append_assoc]
      exact List.take_left
  rcases hown with ⟨rfl, rfl⟩ | ⟨g, off, cap, cur, rfl, hbg, hg, hnc, hcm, hcs, htake⟩
  · have hr0 := run_append_nil (P := P) w t ty e i z ht hi hz ⟨b, off0, none⟩ m c news hnl hcells hmp (by omega) (by rw [hs2]; simp only [List.length_nil, Nat.zero_add] at hbytes; omega)
    have hgr := grown 0 (Value.ownBlock (.slice none 0 0))
    simp only [List.length_nil, Nat.zero_add, List.nil_append, Array.empty_append] at hgr ⊢
    exact ⟨_, _, hr0, hgr.1, hgr.2, fun k hk => .inr (by simp [Value.ownBlock] at hk; omega)⟩
  · by_cases hroom : xs.length + m ≤ cap
    · have hf := run_firstCells_some (P := P) w i.size m ⟨b, off0, none⟩ m c news hnl hcells
      have hst := run_storeCells_at P g (off + xs.length) e news 0 cur w hg (by rw [hr.1]; omega) h1
      simp only [Nat.add_zero] at hst
      have hrun : (Builtin.append_ #[t, t] ty #[.slice (some ⟨g, off, none⟩) xs.length cap, .slice (some ⟨b, off0, none⟩) m c]).run P w =
          .ok (.slice (some ⟨g, off, none⟩) (xs.length + m) cap) (w.setRow g (cur.toList.take (off + xs.length) ++ news ++ cur.toList.drop (off + xs.length + news.length)).toArray) := by
        rw [hs1] at hf
        simp [Builtin.append_, run_underlying ht, sizeOf, typeInfo, hi, hs1, Builtin.lenOf, hroom, hf, add_plain', hst]
      refine ⟨_, _, hrun, .inr ⟨g, off, cap, _, by rw [hlen], hbg, setRow_heap w g cur _ e _ hg, by rw [hlen]; exact hroom, hcm, ?_, ?_⟩, ⟨rfl, rfl, rfl, by simp, fun k _ hk => setRow_other w g k _ (fun e => hk (by simp [Value.ownBlock, e]))⟩, fun k hk => .inl hk⟩
      · have := hr.1
        simp only [List.size_toArray, List.length_append, List.length_take, List.length_drop, Array.length_toList]
        omega
      · have h2 : off ≤ (cur.toList.take (off + xs.length)).length := by simp; omega
        have h3 : (cur.toList.take (off + xs.length)).drop off = xs := by rw [List.drop_take, Nat.add_sub_cancel_left]; exact htake
        simp only [List.append_assoc]
        rw [List.drop_append_of_le_length h2, h3, ← List.append_assoc]
        exact List.take_left
    · have holds : ∀ j u, xs[j]? = some u → w.cell? ((⟨g, off, none⟩ : Addr).add j) = some u := fun j u hu => by
        rw [add_plain']
        exact OwnQ.cell (.inr ⟨g, off, cap, cur, rfl, hbg, hg, hnc, hcm, hcs, htake⟩ : OwnQ w base e (.slice (some ⟨g, off, none⟩) xs.length cap) xs) j u hu
      have hr0 := run_append_grow (P := P) w t ty e i z ht hi hz ⟨g, off, none⟩ xs.length cap xs (by rw [hs1]; omega) holds ⟨b, off0, none⟩ m c news hnl hcells (by omega) (by omega) (by rw [hs2]; exact growslice_big (by omega) hbytes h8)
      have hgr := grown cap (Value.ownBlock (.slice (some ⟨g, off, none⟩) xs.length cap))
      exact ⟨_, _, hr0, hgr.1, hgr.2, fun k hk => .inr (by simp [Value.ownBlock] at hk; omega)⟩
/-- The same in a walk. -/
theorem wpList_appendQ {P : Program} {ops : Array Oper} {rest : List Oper} {o : Oper} {a : Act} {Q : Exit → Act → World → Prop} {w : World} (hgd : o.guard = none) (s x : Operand) (t e : TypeId)
    (ho : o.op = .call { callee := .builtin .append, args := #[s, x], argTypes := #[t, t] })
    {z : Value} {bytes : Nat} (tab : (P.info? e).map (fun i => (i.zero, i.size, i.bytes)) = some (some z, 1, bytes)) (ht : P.underlying t = some (.slice e)) (hzs : z.cells.size = 1) (h8 : bytes ≤ 65536)
    (base : Nat) (hbase : base ≤ w.heap.size) (v : Value) (xs : List Value) (hs : a.eval s = v) (hown : OwnQ w base e v xs)
    (A : Option Addr) (m c : Nat) (news : List Value) (hx : a.eval x = .slice A m c) (hr : Sl w A m news) (h1 : ∀ u ∈ news, u.oneCell' = true)
    (hbytes : (xs.length + m) * bytes ≤ 140737489403904) (hm4 : xs.length + m ≤ 9007199254740992)
    (h : ∀ v' w', OwnQ w' base e v' (xs ++ news) → w.grownBy w' v.ownBlock → (∀ k, v'.ownBlock = some k → v.ownBlock = some k ∨ w.heap.size ≤ k) → wpList P ops Q rest (a.put o.dst v') w') : wpList P ops Q (o :: rest) a w := by
  obtain ⟨v', w', hrun, k1, k2, k3⟩ := OwnQ.append t o.type e tab ht hzs h8 hbase hown A m c news hr h1 hbytes hm4
  refine wpList_plain hgd fun K hK => ?_
  unfold Oper.wp execOp
  simp only [ho, resolve, invoke, builtin, Sem.run_bind, Sem.run_pure, Result.andThen_ok, List.map_toArray, List.map_cons, List.map_nil, hs, hx, hrun]
  exact hK _ _ (h v' w' k1 k2 k3)
end Go.Proofs.Ytlafiddfplhafaa
/- Right gates; what Step and Solves tell, as one value. No program in sight. -/
namespace Go.Proofs.Ytlafiddfplhafaa
set_option linter.unusedVariables false
set_option linter.unusedSimpArgs false
/-- A gate of a right net: gn gates, rn registers, jn inputs. -/
structure GateR (gn rn jn : Nat) (g : GateM) : Prop where
  kind : 0 ≤ g.kind ∧ g.kind ≤ 6
  args : ∀ a ∈ g.args, 0 ≤ a ∧ a < gn
  al : g.args.length ≤ 16
  inp : g.kind = 2 → 0 ≤ g.num ∧ g.num < jn
  reg : g.kind = 3 → 0 ≤ g.num ∧ g.num < rn
  one : g.kind = 6 → g.args.length = 1
  none : g.kind ≤ 3 → g.args.length = 0
theorem NetOK.gate {N : NetM} (ok : NetOK N) {g : GateM} (hg : g ∈ N.gates) : GateR N.gates.length N.regs.length N.ins.toNat g := by
  have hf := ok.form g hg
  have hk := ok.kinds g hg
  simp only [formM, Bool.and_eq_true, decide_eq_true_eq] at hf
  obtain ⟨⟨h1, h2⟩, h3⟩ := hf
  refine ⟨hk, fun a ha => ok.named a (List.mem_append_right _ (List.mem_flatMap.2 ⟨g, hg, ha⟩)), ok.al g hg, fun e => ?_, fun e => ?_, fun e => ?_, fun e => ?_⟩
  · rw [if_pos e] at h3; have := ok.ins0; omega
  · rw [if_neg (by omega), if_pos e] at h3; omega
  · rw [if_neg (by omega), if_pos e] at h1; simpa using h1
  · rw [if_neg (by omega), if_neg (by omega)] at h1; simpa using h1
def askedM (N : NetM) (regs ins : List Int) : Int :=
  if checkN N ≠ 0 then checkN N else if regs.length ≠ N.regs.length ∨ (ins.length : Int) ≠ N.ins then 1 else if regs.any bad3 then 3 else if ins.any bad3 then 3 else 0
structure AskedOK (N : NetM) (regs ins : List Int) : Prop where
  net : NetOK N
  rl : regs.length = N.regs.length
  il : (ins.length : Int) = N.ins
  rg : goodL regs
  ig : goodL ins
theorem askedM_ok {N : NetM} {regs ins : List Int} (h : askedM N regs ins = 0) : AskedOK N regs ins := by
  unfold askedM at h
  by_cases h0 : checkN N = 0
  · rw [if_neg (by simp [h0])] at h
    split at h
    · cases h
    rename_i h1
    split at h
    · cases h
    rename_i h2
    split at h
    · cases h
    rename_i h3
    simp only [not_or, ne_eq, Decidable.not_not] at h1
    exact ⟨checkN_ok h0, h1.1, h1.2, goodL_of (by simpa using h2), goodL_of (by simpa using h3)⟩
  · rw [if_pos h0] at h; exact absurd h h0
end Go.Proofs.Ytlafiddfplhafaa
/- A row of rows of numbers, all of the call's own. No program in sight. -/
namespace Go.Proofs.Ytlafiddfplhafaa
set_option linter.unusedVariables false
set_option linter.unusedSimpArgs false
open Go.RowKit
structure Rows2 (E T : TypeId) (w : World) (base g0 n : Nat) (U : List (List Int)) (vs : List Value) : Prop where
  row : w.ownsRow base E 1 (.slice (some ⟨g0, 0, none⟩) n n) n vs
  len : U.length = n
  own : ∀ (k : Nat) v u, vs[k]? = some v → U[k]? = some u → w.ownsRow base T 1 v u.length (u.map I)
  off : ∀ (k : Nat) v, vs[k]? = some v → v.ownBlock ≠ some g0
  apart : ∀ (j k : Nat) v v', vs[j]? = some v → vs[k]? = some v' → j ≠ k → v.ownBlock = none ∨ v.ownBlock ≠ v'.ownBlock
section
variable {E T : TypeId} {w w' : World} {base g0 n : Nat} {U : List (List Int)} {vs : List Value}
theorem Rows2.vl (h : Rows2 E T w base g0 n U vs) : vs.length = n := by have := h.row.1; omega
theorem Rows2.start (w : World) (hb : base ≤ w.heap.size) (hm : n ≤ maxLen) (g0 : Nat) (hg0 : g0 = w.heap.size) : Rows2 E T (w.alloc (.cells (zeros (.slice none 0 0) n) E)) base g0 n (List.replicate n []) (List.replicate n (.slice none 0 0)) := by
  subst hg0
  refine ⟨own_made w E _ n base hb hm, by simp, fun k v u hv hu => ?_, fun k v hv => ?_, fun j k v v' hv _ _ => ?_⟩
  · rw [List.getElem?_replicate] at hv hu
    split at hv
    · rename_i hk
      rw [if_pos hk] at hu
      injection hv with hv; injection hu with hu
      subst hv; subst hu
      exact World.ownsRow_nil _ _ _ _
    · cases hv
  · rw [List.getElem?_replicate] at hv
    split at hv
    · injection hv with hv; subst hv; simp [Value.ownBlock]
    · cases hv
  · rw [List.getElem?_replicate] at hv
    split at hv
    · injection hv with hv; subst hv; exact .inl rfl
    · cases hv
theorem Rows2.ext (h : Rows2 E T w base g0 n U vs) (hx : Ext w w') : Rows2 E T w' base g0 n U vs :=
  ⟨own_ext h.row hx, h.len, fun k v u hv hu => own_ext (h.own k v u hv hu) hx, h.off, h.apart⟩
theorem Rows2.base_le {base' : Nat} (h : Rows2 E T w base g0 n U vs) (hb : base' ≤ base) : Rows2 E T w base' g0 n U vs :=
  ⟨own_base h.row hb, h.len, fun k v u hv hu => own_base (h.own k v u hv hu) hb, h.off, h.apart⟩
theorem Rows2.get (h : Rows2 E T w base g0 n U vs) {k : Nat} (hk : k < n) : ∃ v u, vs[k]? = some v ∧ U[k]? = some u ∧ w.cell? ⟨g0, k, none⟩ = some v ∧ w.frozen? ⟨g0, k, none⟩ = false ∧ w.ownsRow base T 1 v u.length (u.map I) ∧ base ≤ g0 := by
  obtain ⟨⟨v, h1, h2⟩, h3, h4⟩ := own_at h.row hk
  have hlt : k < U.length := by rw [h.len]; exact hk
  have hu : U[k]? = some U[k] := List.getElem?_eq_getElem hlt
  exact ⟨v, _, h1, hu, h2, h3, h.own k v _ h1 hu, h4⟩
/-- One more number in one of the rows. -/
theorem Rows2.step (h : Rows2 E T w base g0 n U vs) {a : Nat} {v v' : Value} {u : List Int} {x : Int} (hv : vs[a]? = some v) (hu : U[a]? = some u)
    (hown : w'.ownsRow base T 1 v' (u.length + 1) (u.map I ++ [I x])) (hg : w.grownBy w' v.ownBlock) (hf : ∀ k, v'.ownBlock = some k → v.ownBlock = some k ∨ w.heap.size ≤ k) :
    Rows2 E T (w'.setCell ⟨g0, a, none⟩ v') base g0 n (U.modify a (· ++ [x])) (vs.set a v') := by
  have hal : a < vs.length := (List.getElem?_eq_some_iff.1 hv).1
  have hau : a < U.length := (List.getElem?_eq_some_iff.1 hu).1
  have hv' : v'.ownBlock ≠ some g0 := fun e => by
    rcases hf g0 e with q | q
    · exact h.off a v hv q
    · have := (h.row.lt g0 rfl).2; omega
  have hrow : w'.ownsRow base E 1 (.slice (some ⟨g0, 0, none⟩) n n) n vs := h.row.kept hg (.inr (fun e => h.off a v hv e.symm))
  refine ⟨(hrow.stored a v').1, by simp [h.len], fun k y z hy hz => ?_, fun k y hy => ?_, fun j k y y' hy hy' hne => ?_⟩
  · by_cases e : a = k
    · subst e
      rw [List.getElem?_set_self hal] at hy
      injection hy with hy; subst hy
      rw [List.getElem?_modify_eq, hu] at hz
      injection hz with hz; subst hz
      have := own_other (g := g0) (j := a) (u := v') hown hv'
      simpa using this
    · rw [List.getElem?_set_ne e] at hy
      rw [List.getElem?_modify] at hz; simp only [if_neg e] at hz; have hz : U[k]? = some z := by simpa using hz
      have h1 := h.own k y z hy hz
      have h2 := h1.kept hg (h.apart k a y v hy hv (fun q => e q.symm))
      exact own_other h2 (h.off k y hy)
  · by_cases e : a = k
    · subst e
      rw [List.getElem?_set_self hal] at hy
      injection hy with hy; subst hy; exact hv'
    · rw [List.getElem?_set_ne e] at hy; exact h.off k y hy
  · by_cases e : a = j
    · subst e
      rw [List.getElem?_set_self hal] at hy
      injection hy with hy; subst hy
      rw [List.getElem?_set_ne hne] at hy'
      cases hb : v'.ownBlock with
      | none => exact .inl rfl
      | some b =>
        right
        intro q
        rcases hf b hb with q2 | q2
        · rcases h.apart a k v y' hv hy' hne with q3 | q3
          · rw [q3] at q2; cases q2
          · exact q3 (q2.trans q)
        · cases hz : U[k]? with
          | none => have := (List.getElem?_eq_some_iff.1 hy').1; have := List.getElem?_eq_none_iff.1 hz; have := h.len; have := h.vl; omega
          | some z => have := ((h.own k y' z hy' hz).lt b q.symm).2; omega
    · rw [List.getElem?_set_ne e] at hy
      by_cases e2 : a = k
      · subst e2
        rw [List.getElem?_set_self hal] at hy'
        injection hy' with hy'; subst hy'
        cases hb : y.ownBlock with
        | none => exact .inl rfl
        | some b =>
          right
          intro q
          rcases hf b q.symm with q2 | q2
          · rcases h.apart j a y v hy hv hne with q3 | q3
            · rw [q3] at hb; cases hb
            · exact q3 (hb.trans q2.symm)
          · cases hz : U[j]? with
            | none => have := (List.getElem?_eq_some_iff.1 hy).1; have := List.getElem?_eq_none_iff.1 hz; have := h.len; have := h.vl; omega
            | some z => have := ((h.own j y z hy hz).lt b hb).2; omega
      · rw [List.getElem?_set_ne e2] at hy'
        exact h.apart j k y y' hy hy' hne
end
theorem len_le_total {U : List (List Int)} : ∀ {k : Nat} {u : List Int}, U[k]? = some u → u.length ≤ totalU U := by
  induction U with
  | nil => intro k u h; simp at h
  | cons x U ih =>
    intro k u h
    simp only [totalU, List.map_cons, List.sum_cons]
    cases k with
    | zero => simp at h; subst h; omega
    | succ k => have := ih (by simpa using h); simp only [totalU] at this; omega
end Go.Proofs.Ytlafiddfplhafaa
