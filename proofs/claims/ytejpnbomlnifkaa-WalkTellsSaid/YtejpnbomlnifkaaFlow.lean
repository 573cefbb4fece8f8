/- A region that draws its order, by one fact for each operation: whatever order is drawn, each operation's slot holds what its fact says. -/
import Derived.Test.YtejpnbomlnifkaaLib
import Derived.Orders
namespace Go.Proofs.Ytejpnbomlnifkaa
set_option linter.unusedVariables false
set_option linter.unusedSimpArgs false
open Go.RowKit

theorem wpOp_step' {P : Program} {ops : Array Oper} {Q : Exit → Act → World → Prop} {i : Nat} {o : Oper} {K : Act → World → Prop} {a : Act} {w : World} (ho : ops[i]? = some o) (h1 : Region.wanted o (yielded ops a.tmps) = true) (h2 : Oper.wp P o a w K Q) : wpOp P ops Q i K a w := by
  unfold wpOp
  rw [ho]
  show if Region.wanted o (yielded ops a.tmps) = true then _ else _
  rw [if_pos h1]; exact .inl h2
theorem wpAny_inv {P : Program} {md : Region.Mode} {ops : Array Oper} {Q : Exit → Act → World → Prop} (I : Array Bool → Act → World → Prop)
    (step : ∀ listed a w i, listed.size = ops.size → I listed a w → i ∈ Region.ready md ops listed → wpOp P ops Q i (I (listed.setIfInBounds i true)) a w)
    (last : ∀ listed a w, I listed a w → Region.ready md ops listed = [] → Q .normal a w) :
    ∀ (fuel : Nat) (listed : Array Bool) (a : Act) (w : World), listed.size = ops.size → listed.toList.count false ≤ fuel → I listed a w → wpAny P md ops Q fuel listed a w
  | 0, listed, a, w, hs, hc, hI => by
    have hr : Region.ready md ops listed = [] := by
      unfold Region.ready
      refine List.filter_eq_nil_iff.2 fun i hi => ?_
      have hlt : i < listed.size := by rw [hs]; exact List.mem_range.1 hi
      have h0 : listed.toList.count false = 0 := by omega
      have hm := List.count_eq_zero.1 h0
      have hx : listed[i] = true := by
        cases h : listed[i] with
        | true => rfl
        | false => exact absurd (by rw [← h]; exact Array.getElem_mem_toList hlt) hm
      simp [Array.getD, hlt, hx]
    exact ⟨hr, last _ _ _ hI hr⟩
  | fuel + 1, listed, a, w, hs, hc, hI => by
    refine ⟨fun hr => last _ _ _ hI hr, fun i hi => ?_⟩
    refine wpOp_mono (fun a' w' h => wpAny_inv I step last fuel _ a' w' (by simpa using hs) ?_ h) (step listed a w i hs hI hi)
    have hm : i < ops.size ∧ listed.getD i true = false := by
      unfold Region.ready at hi
      obtain ⟨h1, h2⟩ := List.mem_filter.1 hi
      refine ⟨List.mem_range.1 h1, ?_⟩
      simp only [Bool.and_eq_true, Bool.not_eq_true'] at h2
      exact h2.1
    obtain ⟨h1, h2⟩ := hm
    have hlt : i < listed.size := by omega
    have hx : listed.toList[i]'(by simpa using hlt) = false := by simpa [Array.getD, hlt] using h2
    have := List.count_set (a := true) (b := false) (l := listed.toList) (i := i) (by simpa using hlt)
    simp only [Array.toList_setIfInBounds]
    have hpos : 0 < listed.toList.count false := List.count_pos_iff.2 (by rw [← hx]; exact List.getElem_mem _)
    rw [this, hx]
    have e1 : (if (false == false) = true then 1 else 0) = 1 := rfl
    have e2 : (if (true == false) = true then 1 else 0) = 0 := rfl
    rw [e1, e2]; omega

/-- What is known in the midst of such a region: nothing old has changed, and each operation that has come up has left what its fact says. -/
structure Flow (W0 : World) (a0 : Act) (ops : Array Oper) (F : Nat → Value → World → Prop) (listed : Array Bool) (a : Act) (w : World) : Prop where
  ext : Ext W0 w
  size : a.tmps.size = a0.tmps.size
  defers : a.defers = a0.defers
  base : ∀ s : Nat, (∀ (j : Nat) (o : Oper), ops[j]? = some o → o.dst ≠ some s) → a.tmps[s]? = a0.tmps[s]?
  slot : ∀ (j : Nat) (o : Oper) (d : Nat), listed.getD j false = true → ops[j]? = some o → o.dst = some d → ∃ v, a.tmps[d]? = some v ∧ F j v w

def flowOK (ops : Array Oper) (n : Nat) : Bool :=
  (List.range ops.size).all fun j => match ops[j]? with
    | none => true
    | some o => (match o.dst with
      | some d => decide (d < n) && (List.range j).all (fun i => match ops[i]? with | some o' => !(o'.dst == some d) | none => true)
      | none => false) && o.after.toList.all (fun e => decide (e.on < j))
theorem flow_dst {ops : Array Oper} {n : Nat} (h : flowOK ops n = true) {j : Nat} {o : Oper} (hj : ops[j]? = some o) : ∃ d, o.dst = some d ∧ d < n ∧ (∀ i o', i < j → ops[i]? = some o' → o'.dst ≠ some d) ∧ ∀ e ∈ o.after.toList, e.on < j := by
  unfold flowOK at h
  have hlt : j < ops.size := (Array.getElem?_eq_some_iff.1 hj).1
  have h1 := List.all_eq_true.1 h j (List.mem_range.2 hlt)
  rw [hj] at h1
  simp only [Bool.and_eq_true] at h1
  obtain ⟨h1, h2⟩ := h1
  cases hd : o.dst with
  | none => rw [hd] at h1; cases h1
  | some d =>
    rw [hd] at h1
    simp only [Bool.and_eq_true, decide_eq_true_eq] at h1
    refine ⟨d, rfl, h1.1, fun i o' hi ho' => ?_, fun e he => by simpa using List.all_eq_true.1 h2 e he⟩
    have h3 := List.all_eq_true.1 h1.2 i (List.mem_range.2 hi)
    rw [ho'] at h3
    simpa using h3
theorem flow_apart {ops : Array Oper} {n : Nat} (h : flowOK ops n = true) {j i : Nat} {o o' : Oper} {d : Nat} (hj : ops[j]? = some o) (hi : ops[i]? = some o') (hd : o.dst = some d) (hd' : o'.dst = some d) : j = i := by
  rcases Nat.lt_trichotomy j i with q | q | q
  · obtain ⟨d2, e, _, h3, _⟩ := flow_dst h hi
    rw [hd'] at e; injection e with e; subst e
    exact absurd hd (h3 j o q hj)
  · exact q
  · obtain ⟨d2, e, _, h3, _⟩ := flow_dst h hj
    rw [hd] at e; injection e with e; subst e
    exact absurd hd' (h3 i o' q hi)
theorem Flow.put {W0 : World} {a0 : Act} {ops : Array Oper} {F : Nat → Value → World → Prop} {listed : Array Bool} {a : Act} {w w' : World} (hok : flowOK ops a0.tmps.size = true) (mono : ∀ j v w w', F j v w → Ext w w' → F j v w')
    (h : Flow W0 a0 ops F listed a w) (hs : listed.size = ops.size) {j : Nat} {o : Oper} (hj : ops[j]? = some o) {v : Value} (hv : F j v w') (hx : Ext w w') : Flow W0 a0 ops F (listed.setIfInBounds j true) (a.put o.dst v) w' := by
  obtain ⟨d, hd, hdn, -, -⟩ := flow_dst hok hj
  rw [hd]
  refine ⟨h.ext.trans hx, by simpa [Act.put] using h.size, h.defers, fun s hsn => ?_, fun i o' d' hl hi hd' => ?_⟩
  · show (a.tmps.setIfInBounds d v)[s]? = _
    rw [Array.getElem?_setIfInBounds_ne (fun e => hsn j o hj (by rw [hd, e]))]
    exact h.base s hsn
  · show ∃ v', (a.tmps.setIfInBounds d v)[d']? = some v' ∧ _
    by_cases e : j = i
    · subst e
      rw [hj] at hi; injection hi with hi; subst hi
      rw [hd] at hd'; injection hd' with hd'; subst hd'
      refine ⟨v, ?_, hv⟩
      rw [Array.getElem?_setIfInBounds_self_of_lt (by rw [h.size]; exact hdn)]
    · have hne : d ≠ d' := fun q => e (flow_apart hok hj hi hd (by rw [hd', q]))
      have hl' : listed.getD i false = true := by
        rw [Array.getD_eq_getD_getElem?, Array.getElem?_setIfInBounds_ne e] at hl
        rw [Array.getD_eq_getD_getElem?]; exact hl
      obtain ⟨v', h1, h2⟩ := h.slot i o' d' hl' hi hd'
      exact ⟨v', by rw [Array.getElem?_setIfInBounds_ne hne]; exact h1, mono _ _ _ _ h2 hx⟩

theorem ready_of {md : Region.Mode} {ops : Array Oper} {listed : Array Bool} {i : Nat} (h : i ∈ Region.ready md ops listed) : ∃ o, ops[i]? = some o ∧ ∀ e ∈ o.after.toList, Region.binds md e = true → listed.getD e.on false = true := by
  unfold Region.ready at h
  obtain ⟨h1, h2⟩ := List.mem_filter.1 h
  simp only [Bool.and_eq_true] at h2
  obtain ⟨-, h3⟩ := h2
  cases ho : ops[i]? with
  | none => rw [ho] at h3; cases h3
  | some o =>
    rw [ho] at h3
    simp only [Option.map_some, Option.getD_some] at h3
    refine ⟨o, rfl, fun e he hb => ?_⟩
    have := Array.all_eq_true'.1 h3 e (by simpa using he)
    simpa [hb] using this
theorem all_listed {md : Region.Mode} {ops : Array Oper} {n : Nat} (hok : flowOK ops n = true) {listed : Array Bool} (hs : listed.size = ops.size) (h : Region.ready md ops listed = []) : ∀ (m j : Nat), j < m → j < ops.size → listed.getD j false = true
  | 0, j, h1, _ => by omega
  | m + 1, j, h1, h2 => by
    have ih := all_listed hok hs h m
    by_cases hl : listed.getD j false = true
    · exact hl
    · exfalso
      have hmem : j ∈ Region.ready md ops listed := by
        unfold Region.ready
        refine List.mem_filter.2 ⟨List.mem_range.2 h2, ?_⟩
        have hj : ops[j]? = some ops[j] := Array.getElem?_eq_getElem h2
        obtain ⟨d, -, -, -, hb⟩ := flow_dst hok hj
        rw [hj]
        simp only [Bool.and_eq_true, Option.map_some, Option.getD_some]
        refine ⟨?_, Array.all_eq_true'.2 fun e he => ?_⟩
        · have h2' : j < listed.size := by omega
          simp only [Array.getD, h2', dif_pos] at hl ⊢
          simpa using hl
        · have he' := hb e (by simpa using he)
          rw [ih e.on (by omega) (by omega)]; simp
      rw [h] at hmem; cases hmem

/-- The rule: each operation once. -/
theorem wp_flow {P : Program} {ops : Array Oper} {Q : Exit → Act → World → Prop} {id : Nat} {a0 : Act} {W0 : World} (F : Nat → Value → World → Prop) (hm : P.follows .mixedOrders = true) (hok : flowOK ops a0.tmps.size = true)
    (mono : ∀ j v w w', F j v w → Ext w w' → F j v w')
    (each : ∀ j o, ops[j]? = some o → ∀ listed a w, Flow W0 a0 ops F listed a w → (∀ e ∈ o.after.toList, Region.binds .any e = true → listed.getD e.on false = true) →
      Region.wanted o (yielded ops a.tmps) = true ∧ ∀ K : Act → World → Prop, (∀ v w', F j v w' → Ext w w' → K (a.put o.dst v) w') → Oper.wp P o a w K Q)
    (last : ∀ listed a w, Flow W0 a0 ops F listed a w → (∀ j, j < ops.size → listed.getD j false = true) → Q .normal a w) : (Code.region id ops true).wp P Q a0 W0 := by
  refine wp_region_any hm (wpAny_inv (fun listed a w => listed.size = ops.size ∧ Flow W0 a0 ops F listed a w) ?_ ?_ ops.size _ _ _ (by simp) ?_ ?_)
  · intro listed a w i hs hI hi
    obtain ⟨o, ho, hdep⟩ := ready_of hi
    obtain ⟨h1, h2⟩ := each i o ho listed a w hI.2 hdep
    refine wpOp_step' ho h1 (h2 _ fun v w' hv hx => ⟨by simpa using hs, hI.2.put hok mono hs ho hv hx⟩)
  · intro listed a w hI hr
    exact last _ _ _ hI.2 fun j hj => all_listed hok hI.1 hr (j + 1) j (Nat.lt_succ_self j) hj
  · rw [Array.toList_replicate]; simp
  · exact ⟨by simp, ⟨(Ext.refl W0).drew, rfl, rfl, fun s _ => rfl, fun j o d h _ _ => by
      rw [Array.getD_eq_getD_getElem?, Array.getElem?_replicate] at h
      split at h <;> cases h⟩⟩

/-! ## The rule with the operations in a list, each with its own fact -/
inductive AllFrom (E : Nat → Oper → Prop) : Nat → List Oper → Prop
  | nil {k : Nat} : AllFrom E k []
  | cons {k : Nat} {o : Oper} {l : List Oper} : E k o → AllFrom E (k + 1) l → AllFrom E k (o :: l)
theorem AllFrom.at_ {E : Nat → Oper → Prop} {k : Nat} {l : List Oper} (h : AllFrom E k l) : ∀ (j : Nat) (o : Oper), l[j]? = some o → E (k + j) o := by
  induction h with
  | nil => intro j o h; simp at h
  | cons h0 _ ih =>
    intro j o h
    cases j with
    | zero => simp at h; subst h; exact h0
    | succ j => have := ih j o (by simpa using h); rwa [show ∀ k : Nat, k + 1 + j = k + (j + 1) from fun k => by omega] at this
def nth {α : Type} : List α → Nat → α → α
  | [], _, d => d
  | x :: _, 0, _ => x
  | _ :: l, n + 1, d => nth l n d
abbrev Fact := Value → World → Prop
/-- The facts of the operations, in their order. -/
def facts (Fs : List Fact) (j : Nat) (v : Value) (w : World) : Prop := nth Fs j (fun _ _ => True) v w
def factsMono : List Fact → Prop
  | [] => True
  | f :: l => (∀ v w w', f v w → Ext w w' → f v w') ∧ factsMono l
theorem facts_mono : ∀ {Fs : List Fact}, factsMono Fs → ∀ j v w w', facts Fs j v w → Ext w w' → facts Fs j v w'
  | [], _, j, v, w, w', _, _ => by unfold facts nth; trivial
  | f :: l, h, 0, v, w, w', hv, hx => h.1 v w w' hv hx
  | f :: l, h, j + 1, v, w, w', hv, hx => facts_mono (Fs := l) h.2 j v w w' hv hx
abbrev isV (V : Value) : Fact := fun v _ => v = V
theorem isV_mono {V : Value} : ∀ (v : Value) (w w' : World), isV V v w → Ext w w' → isV V v w' := fun _ _ _ h _ => h
def dstIs (ops : Array Oper) (i d : Nat) : Bool := match ops[i]? with | some o => o.dst == some d | none => false
theorem dstIs_spec {ops : Array Oper} {i d : Nat} (h : dstIs ops i d = true) : ∃ o, ops[i]? = some o ∧ o.dst = some d := by
  unfold dstIs at h
  cases ho : ops[i]? with
  | none => rw [ho] at h; cases h
  | some o => rw [ho] at h; exact ⟨o, rfl, by simpa using h⟩
def freeSlot (ops : Array Oper) (s : Nat) : Bool := ops.all fun o => !(o.dst == some s)
theorem freeSlot_spec {ops : Array Oper} {s : Nat} (h : freeSlot ops s = true) : ∀ (j : Nat) (o : Oper), ops[j]? = some o → o.dst ≠ some s := fun j o ho => by
  have := (Array.all_eq_true_iff_forall_mem.1 h) o (Array.mem_of_getElem? ho)
  simpa using this
def waitsFor (o : Oper) (i : Nat) : Bool := o.after.any fun e => e.on == i && Region.binds .any e
theorem waitsFor_spec {o : Oper} {i : Nat} {listed : Array Bool} (h : waitsFor o i = true) (hd : ∀ e ∈ o.after.toList, Region.binds .any e = true → listed.getD e.on false = true) : listed.getD i false = true := by
  obtain ⟨e, he, h2⟩ := Array.any_eq_true'.1 h
  simp only [Bool.and_eq_true, beq_iff_eq] at h2
  rw [← h2.1]; exact hd e (by simpa using he) h2.2
theorem wanted_yes {ops : Array Oper} {o : Oper} {tmps : Array Value} (g : Nat) (b : Bool) (d : Nat) (hg : o.guard = some (g, b)) (hd : dstIs ops g d = true) (hs : tmps[d]? = some (.bool b)) : Region.wanted o (yielded ops tmps) = true := by
  obtain ⟨og, h1, h2⟩ := dstIs_spec hd
  unfold Region.wanted yielded
  rw [hg]; simp [h1, h2, hs]
theorem wanted_no {ops : Array Oper} {o : Oper} {tmps : Array Value} (g : Nat) (b : Bool) (d : Nat) (hg : o.guard = some (g, b)) (hd : dstIs ops g d = true) (hs : tmps[d]? = some (.bool (!b))) : Region.wanted o (yielded ops tmps) = false := by
  obtain ⟨og, h1, h2⟩ := dstIs_spec hd
  unfold Region.wanted yielded
  rw [hg]; cases b <;> simp [h1, h2, hs]
theorem wanted_free {ops : Array Oper} {o : Oper} {tmps : Array Value} (hg : o.guard = none) : Region.wanted o (yielded ops tmps) = true := by
  unfold Region.wanted; rw [hg]
/-- One operation of the region. -/
def StepOK (P : Program) (ops : Array Oper) (Q : Exit → Act → World → Prop) (W0 : World) (a0 : Act) (F : Nat → Value → World → Prop) (j : Nat) (o : Oper) : Prop :=
  ∀ (a : Act) (w : World), Ext W0 w →
    (∀ i d, waitsFor o i = true → dstIs ops i d = true → ∃ v, a.tmps[d]? = some v ∧ F i v w) →
    (∀ s, freeSlot ops s = true → a.tmps[s]? = a0.tmps[s]?) →
    (Region.wanted o (yielded ops a.tmps) = true ∧ ∀ K : Act → World → Prop, (∀ v w', F j v w' → Ext w w' → K (a.put o.dst v) w') → Oper.wp P o a w K Q) ∨ (Region.wanted o (yielded ops a.tmps) = false ∧ F j undef w)
theorem wpOp_skip' {P : Program} {ops : Array Oper} {Q : Exit → Act → World → Prop} {i : Nat} {o : Oper} {K : Act → World → Prop} {a : Act} {w : World} (ho : ops[i]? = some o) (h1 : Region.wanted o (yielded ops a.tmps) = false) (h2 : K (a.put o.dst undef) w) : wpOp P ops Q i K a w := by
  unfold wpOp
  rw [ho]
  show if Region.wanted o (yielded ops a.tmps) = true then _ else _
  rw [if_neg (by rw [h1]; decide)]; exact h2
theorem wp_flow2 {P : Program} {ops : Array Oper} {Q : Exit → Act → World → Prop} {id : Nat} {a0 : Act} {W0 : World} (Fs : List Fact) (hm : P.follows .mixedOrders = true) (hok : flowOK ops a0.tmps.size = true)
    (mono : factsMono Fs) (each : AllFrom (StepOK P ops Q W0 a0 (facts Fs)) 0 ops.toList)
    (last : ∀ a w, Ext W0 w → a.tmps.size = a0.tmps.size → a.defers = a0.defers → (∀ i d, dstIs ops i d = true → ∃ v, a.tmps[d]? = some v ∧ facts Fs i v w) → (∀ s, freeSlot ops s = true → a.tmps[s]? = a0.tmps[s]?) → Q .normal a w) : (Code.region id ops true).wp P Q a0 W0 := by
  refine wp_region_any hm (wpAny_inv (fun listed a w => listed.size = ops.size ∧ Flow W0 a0 ops (facts Fs) listed a w) ?_ ?_ ops.size _ _ _ (by simp) ?_ ?_)
  · intro listed a w i hs hI hi
    obtain ⟨o, ho, hdep⟩ := ready_of hi
    have hl : ops.toList[i]? = some o := by simpa using ho
    have hst := each.at_ i o hl
    rw [Nat.zero_add] at hst
    rcases hst a w hI.2.ext (fun i' d hw hd => by
        obtain ⟨o', h1, h2⟩ := dstIs_spec hd
        exact hI.2.slot i' o' d (waitsFor_spec hw hdep) h1 h2) (fun s h => hI.2.base s (freeSlot_spec h)) with ⟨h1, h2⟩ | ⟨h1, h2⟩
    · refine wpOp_step' ho h1 (h2 _ fun v w' hv hx => ⟨by simpa using hs, hI.2.put hok (facts_mono mono) hs ho hv hx⟩)
    · exact wpOp_skip' ho h1 ⟨by simpa using hs, hI.2.put hok (facts_mono mono) hs ho h2 (Ext.refl _)⟩
  · intro listed a w hI hr
    have hall := all_listed (md := .any) hok hI.1 hr
    refine last _ _ hI.2.ext hI.2.size hI.2.defers (fun i d hd => ?_) (fun s h => hI.2.base s (freeSlot_spec h))
    obtain ⟨o', h1, h2⟩ := dstIs_spec hd
    exact hI.2.slot i o' d (hall (i + 1) i (Nat.lt_succ_self i) (Array.getElem?_eq_some_iff.1 h1).1) h1 h2
  · rw [Array.toList_replicate]; simp
  · exact ⟨by simp, ⟨(Ext.refl W0).drew, rfl, rfl, fun s _ => rfl, fun j o d h _ _ => by
      rw [Array.getD_eq_getD_getElem?, Array.getElem?_replicate] at h
      split at h <;> cases h⟩⟩
end Go.Proofs.Ytejpnbomlnifkaa
