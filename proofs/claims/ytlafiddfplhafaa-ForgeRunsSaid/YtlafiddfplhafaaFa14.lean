/- The rule of Flow for regions in which some operations (calls, appends), in a forced order, change memory, and all others may come anywhere among them. -/
import Derived.Test.YtlafiddfplhafaaFa12
import Derived.Test.YtlafiddfplhafaaFa13
import Derived.Maps.OwnSet
import Derived.Maps.Views
import Derived.Maps.OwnOps
namespace Go.Proofs.Ytlafiddfplhafaa
set_option linter.unusedVariables false
set_option linter.unusedSimpArgs false
set_option linter.unusedVariables false
set_option linter.unusedSimpArgs false
open Go.RowKit
theorem ready_not7 {md : Region.Mode} {ops : Array Oper} {listed : Array Bool} {i : Nat} (h : i ∈ Region.ready md ops listed) : listed.getD i true = false := by
  unfold Region.ready at h
  obtain ⟨h1, h2⟩ := List.mem_filter.1 h
  simp only [Bool.and_eq_true, Bool.not_eq_true'] at h2
  exact h2.1
theorem getD_set_self7 {l : Array Bool} {i : Nat} (h : i < l.size) : (l.setIfInBounds i true).getD i false = true := by
  rw [Array.getD_eq_getD_getElem?, Array.getElem?_setIfInBounds_self_of_lt h]; rfl
/-- Each operation that changes memory waits for the one ahead of it; the late ones wait for the last. -/
def heavyOK (ops : Array Oper) (m : Nat) (heavy late : List Nat) : Bool :=
  (List.range heavy.length).all (fun q => match heavy[q]? with
    | some h => decide (h < m) && (match heavy[q + 1]? with
      | some h' => decide (h < h') && (match ops[h']? with | some o => needsOp ops 40 h o | none => false)
      | none => true)
    | none => true) &&
  late.all (fun j => match heavy.getLast? with | some h => j == h || (match ops[j]? with | some o => needsOp ops 40 h o | none => true) | none => true)
theorem heavyOK_lt {ops : Array Oper} {m : Nat} {heavy late : List Nat} (h : heavyOK ops m heavy late = true) {q i : Nat} (hq : heavy[q]? = some i) : i < m := by
  unfold heavyOK at h
  rw [Bool.and_eq_true] at h
  have := List.all_eq_true.1 h.1 q (List.mem_range.2 (List.getElem?_eq_some_iff.1 hq).1)
  rw [hq] at this
  simp only [Bool.and_eq_true, decide_eq_true_eq] at this
  exact this.1
theorem heavyOK_next {ops : Array Oper} {m : Nat} {heavy late : List Nat} (h : heavyOK ops m heavy late = true) {q i j : Nat} (hq : heavy[q]? = some i) (hj : heavy[q + 1]? = some j) : i < j ∧ ∃ o, ops[j]? = some o ∧ needsOp ops 40 i o = true := by
  unfold heavyOK at h
  rw [Bool.and_eq_true] at h
  have := List.all_eq_true.1 h.1 q (List.mem_range.2 (List.getElem?_eq_some_iff.1 hq).1)
  rw [hq, hj] at this
  simp only [Bool.and_eq_true, decide_eq_true_eq] at this
  refine ⟨this.2.1, ?_⟩
  cases ho : ops[j]? with
  | none => rw [ho] at this; simp at this
  | some o => rw [ho] at this; exact ⟨o, rfl, this.2.2⟩
theorem heavyOK_inj {ops : Array Oper} {m : Nat} {heavy late : List Nat} (h : heavyOK ops m heavy late = true) : ∀ (d q i j : Nat), heavy[q]? = some i → heavy[q + d + 1]? = some j → i < j
  | 0, q, i, j, hq, hj => (heavyOK_next h hq hj).1
  | d + 1, q, i, j, hq, hj => by
    have hl := (List.getElem?_eq_some_iff.1 hj).1
    obtain ⟨x, hx⟩ : ∃ x, heavy[q + d + 1]? = some x := ⟨_, List.getElem?_eq_getElem (by omega)⟩
    have h1 := heavyOK_inj h d q i x hq hx
    have h2 := (heavyOK_next h hx (by rw [show q + d + 1 + 1 = q + (d + 1) + 1 from by omega]; exact hj)).1
    omega
structure Flow7S (W0 : World) (a0 : Act) (ops : Array Oper) (m : Nat) (heavy : List Nat) (rel : World → World → Prop) (Inv : Nat → World → Prop) (F : Nat → Value → World → Prop) (listed : Array Bool) (a : Act) (w : World) : Prop where
  size : a.tmps.size = a0.tmps.size
  defers : a.defers = a0.defers
  base : ∀ s : Nat, (∀ (j : Nat) (o : Oper), j < m → ops[j]? = some o → o.dst ≠ some s) → a.tmps[s]? = a0.tmps[s]?
  slot : ∀ (j : Nat) (o : Oper) (d : Nat), j < m → listed.getD j false = true → ops[j]? = some o → o.dst = some d → ∃ v, a.tmps[d]? = some v ∧ F j v w
  relw : rel W0 w
  inv : ∃ k, k ≤ heavy.length ∧ Inv k w ∧ ∀ (q i : Nat), heavy[q]? = some i → listed.getD i false = decide (q < k)
/-- One operation that changes memory: the k-th. -/
def StepH7 (P : Program) (ops : Array Oper) (m : Nat) (Q : Exit → Act → World → Prop) (W0 : World) (a0 : Act) (rel : World → World → Prop) (Inv : Nat → World → Prop) (F : Nat → Value → World → Prop) (k j : Nat) (o : Oper) : Prop :=
  ∀ (a : Act) (w : World), rel W0 w → Inv k w →
    (∀ i d, waitsFor o i = true → dstIs ops i d = true → ∃ v, a.tmps[d]? = some v ∧ F i v w) →
    (∀ s, freeSlot (ops.toList.take m).toArray s = true → a.tmps[s]? = a0.tmps[s]?) →
    Region.wanted o (yielded ops a.tmps) = true ∧ ∀ K : Act → World → Prop, (∀ v w', F j v w' → rel w w' → Inv (k + 1) w' → K (a.put o.dst v) w') → Oper.wp P o a w K Q
/-- One that does not. -/
def StepL7 (P : Program) (ops : Array Oper) (m : Nat) (Q : Exit → Act → World → Prop) (W0 : World) (a0 : Act) (rel : World → World → Prop) (Inv : Nat → World → Prop) (F : Nat → Value → World → Prop) (j : Nat) (o : Oper) : Prop :=
  ∀ (a : Act) (w : World) (k : Nat), rel W0 w → Inv k w →
    (∀ i d, waitsFor o i = true → dstIs ops i d = true → ∃ v, a.tmps[d]? = some v ∧ F i v w) →
    (∀ s, freeSlot (ops.toList.take m).toArray s = true → a.tmps[s]? = a0.tmps[s]?) →
    (Region.wanted o (yielded ops a.tmps) = true ∧ ∀ K : Act → World → Prop, (∀ v w', F j v w' → Ext w w' → K (a.put o.dst v) w') → Oper.wp P o a w K Q) ∨ (Region.wanted o (yielded ops a.tmps) = false ∧ F j undef w)
/-- The operations of the front, the ones that change memory told by their number. -/
inductive AllFrom7 (heavy : List Nat) (L : Nat → Oper → Prop) (H : Nat → Nat → Oper → Prop) : Nat → List Oper → Prop
  | nil {k : Nat} : AllFrom7 heavy L H k []
  | light {k : Nat} {o : Oper} {l : List Oper} : heavy.contains k = false → L k o → AllFrom7 heavy L H (k + 1) l → AllFrom7 heavy L H k (o :: l)
  | heavy {k : Nat} {o : Oper} {l : List Oper} (q : Nat) : heavy[q]? = some k → H q k o → AllFrom7 heavy L H (k + 1) l → AllFrom7 heavy L H k (o :: l)
theorem AllFrom7.at_ {heavy : List Nat} {L : Nat → Oper → Prop} {H : Nat → Nat → Oper → Prop} {k : Nat} {l : List Oper} (h : AllFrom7 heavy L H k l) : ∀ (j : Nat) (o : Oper), l[j]? = some o → (∃ p, heavy[p]? = some (k + j) ∧ H p (k + j) o) ∨ (heavy.contains (k + j) = false ∧ L (k + j) o) := by
  induction h with
  | nil => intro j o h; simp at h
  | light h0 h1 _ ih =>
    intro j o hj
    cases j with
    | zero => simp only [List.getElem?_cons_zero, Option.some.injEq] at hj; subst hj; exact .inr ⟨h0, h1⟩
    | succ j =>
      have := ih j o (by simpa using hj)
      rwa [show ∀ x : Nat, x + 1 + j = x + (j + 1) from fun x => by omega] at this
  | heavy q h0 h1 _ ih =>
    intro j o hj
    cases j with
    | zero => simp only [List.getElem?_cons_zero, Option.some.injEq] at hj; subst hj; exact .inl ⟨q, h0, h1⟩
    | succ j =>
      have := ih j o (by simpa using hj)
      rwa [show ∀ x : Nat, x + 1 + j = x + (j + 1) from fun x => by omega] at this
/-- Facts that last: the late ones under what does not change memory, all others under what does. -/
def factsLast (rel : World → World → Prop) (late : List Nat) : Nat → List Fact → Prop
  | _, [] => True
  | j, f :: l => ((late.contains j = true ∧ ∀ v w w', f v w → Ext w w' → f v w') ∨ ∀ v w w', f v w → rel w w' → f v w') ∧ factsLast rel late (j + 1) l
theorem factsLast_ext {rel : World → World → Prop} {late : List Nat} : ∀ {Fs : List Fact} {j0 : Nat}, factsLast rel late j0 Fs → ∀ j v w w', facts Fs j v w → Ext w w' → rel w w' → facts Fs j v w'
  | [], _, _, j, v, w, w', _, _, _ => by unfold facts nth; trivial
  | f :: l, _, h, 0, v, w, w', hv, hx, hr => by
    rcases h.1 with e | e
    · exact e.2 v w w' hv hx
    · exact e v w w' hv hr
  | f :: l, _, h, j + 1, v, w, w', hv, hx, hr => factsLast_ext (Fs := l) h.2 j v w w' hv hx hr
theorem factsLast_rel {rel : World → World → Prop} {late : List Nat} : ∀ {Fs : List Fact} {j0 : Nat}, factsLast rel late j0 Fs → ∀ j v w w', late.contains (j0 + j) = false → facts Fs j v w → rel w w' → facts Fs j v w'
  | [], _, _, j, v, w, w', _, _, _ => by unfold facts nth; trivial
  | f :: l, j0, h, 0, v, w, w', hl, hv, hx => by
    rcases h.1 with e | e
    · have e1 := e.1
      rw [Nat.add_zero] at hl; rw [e1] at hl; cases hl
    · exact e v w w' hv hx
  | f :: l, j0, h, j + 1, v, w, w', hl, hv, hx => factsLast_rel (Fs := l) h.2 j v w w' (by rwa [show j0 + (j + 1) = j0 + 1 + j from by omega] at hl) hv hx
/-- THE RULE. -/
theorem wp_flow7 {P : Program} {l : List Oper} {Q : Exit → Act → World → Prop} {id : Nat} {a0 : Act} {W0 : World} (m n : Nat) (heavy late : List Nat) (rel : World → World → Prop) (Inv : Nat → World → Prop) (Fs : List Fact) (hm : P.follows .mixedOrders = true) (hln : l.length = m + n) (hfl : Fs.length = m)
    (hok : flowOK (l.take m).toArray a0.tmps.size = true) (hsuf : sufOK4 l.toArray m = true) (hhv : heavyOK l.toArray m heavy late = true)
    (rrefl : rel W0 W0) (rtrans : ∀ a b c, rel a b → rel b c → rel a c) (inve : ∀ k w w', Inv k w → Ext w w' → Inv k w' ∧ rel w w') (start : Inv 0 W0)
    (mono : factsLast rel late 0 Fs) (each : AllFrom7 heavy (StepL7 P l.toArray m Q W0 a0 rel Inv (facts Fs)) (StepH7 P l.toArray m Q W0 a0 rel Inv (facts Fs)) 0 (l.take m))
    (rest : ∀ w, rel W0 w → Inv heavy.length w → ForFacts Fs w (fun vs => wpAny P .any l.toArray Q n (preL m n) (putAll a0 (l.take m) vs) w)) : (Code.region id l.toArray true).wp P Q a0 W0 := by
  have hsz : l.toArray.size = m + n := by simpa using hln
  have hlt : (l.take m).length = m := by simp; omega
  have hpo : ∀ i o, i < m → l.toArray[i]? = some o → (l.take m).toArray[i]? = some o := fun i o hi ho => by
    rw [List.getElem?_toArray, List.getElem?_take_of_lt hi]; simpa using ho
  have hdep : ∀ i o e, i < m → l.toArray[i]? = some o → e ∈ o.after.toList → Region.binds .any e = true → e.on < i := fun i o e hi ho he hbd => by
    obtain ⟨d, -, -, -, h4⟩ := flow_dst hok (hpo i o hi ho)
    exact h4 e he hbd
  refine wp_region_any hm ?_
  have key := wpAny_inv_pre4 (P := P) (Q := Q) hsz hsuf (fun listed a w => (listed.size = m + n ∧ Closed l.toArray listed) ∧ Flow7S W0 a0 l.toArray m heavy rel Inv (facts Fs) listed a w) (fun listed a w h => h.1.2) ?_ ?_ ?_ m (Array.replicate l.toArray.size false) a0 { W0 with drawn := W0.drawn + 1 } (by simp) ?_ ?_ ?_
  · rw [Nat.add_comm] at key; rw [← hsz] at key; exact key
  · rintro listed a w i hs ⟨⟨hI0, hC⟩, hI⟩ him hi
    obtain ⟨o, ho, hd⟩ := ready_of hi
    have hn := ready_not7 hi
    have hil : i < listed.size := by omega
    have hnf : listed.getD i false = false := by
      simp only [Array.getD, hil, dif_pos] at hn ⊢
      exact hn
    obtain ⟨k, hkl, hinv, hks⟩ := hI.inv
    have ho' : (l.take m)[i]? = some o := by rw [List.getElem?_take_of_lt him]; simpa using ho
    obtain ⟨d, hd0, hdn, hu, -⟩ := flow_dst hok (hpo i o him ho)
    have hputb : ∀ (v : Value) (s : Nat), o.dst ≠ some s → (a.put o.dst v).tmps[s]? = a.tmps[s]? := fun v s h => by
      have hne : d ≠ s := by rintro rfl; exact h hd0
      rw [hd0]; simp only [Act.put]
      rw [Array.getElem?_setIfInBounds_ne hne]
    have hputs : ∀ v : Value, (a.put o.dst v).tmps[d]? = some v := fun v => by
      rw [hd0]; simp only [Act.put]
      rw [Array.getElem?_setIfInBounds_self_of_lt (by rw [hI.size]; exact hdn)]
    have hdeps : ∀ i' d, waitsFor o i' = true → dstIs l.toArray i' d = true → ∃ v, a.tmps[d]? = some v ∧ facts Fs i' v w := fun i' d hw' hd' => by
      obtain ⟨o', h1, h2⟩ := dstIs_spec hd'
      have hi' : i' < i := by
        obtain ⟨e, he, h2⟩ := Array.any_eq_true'.1 hw'
        simp only [Bool.and_eq_true, beq_iff_eq] at h2
        rw [← h2.1]; exact hdep i o e him ho (by simpa using he) h2.2
      exact hI.slot i' o' d (by omega) (waitsFor_spec hw' hd) h1 h2
    have hfree : ∀ s, freeSlot (l.toArray.toList.take m).toArray s = true → a.tmps[s]? = a0.tmps[s]? := fun s h => hI.base s (fun j o hj hj' => freeSlot_spec h j o (by rw [List.getElem?_toArray, List.getElem?_take_of_lt hj]; simpa using hj'))
    have slots : ∀ v w', facts Fs i v w' → (∀ j u, j < m → listed.getD j false = true → facts Fs j u w → facts Fs j u w') → ∀ (j : Nat) (o' : Oper) (d' : Nat), j < m → (listed.setIfInBounds i true).getD j false = true → l.toArray[j]? = some o' → o'.dst = some d' → ∃ u, (a.put o.dst v).tmps[d']? = some u ∧ facts Fs j u w' := fun v w' hv hmo j o' d' hj hl hj' hd' => by
      by_cases e : j = i
      · subst e
        rw [ho] at hj'; injection hj' with hj'; subst hj'
        rw [hd0] at hd'; injection hd' with hd'; subst hd'
        exact ⟨v, hputs v, hv⟩
      · rw [getD_set_ne false (fun q => e q.symm)] at hl
        obtain ⟨u, h1, h2⟩ := hI.slot j o' d' hj hl hj' hd'
        refine ⟨u, ?_, hmo j u hj hl h2⟩
        rw [hputb v d' ?_]
        · exact h1
        · intro e2
          rw [hd0] at e2; injection e2 with e2; subst e2
          obtain ⟨dj, hdj, -, huj, -⟩ := flow_dst hok (hpo j o' hj hj')
          rcases Nat.lt_or_ge j i with q | q
          · exact hu j o' q (hpo j o' hj hj') hd'
          · exact huj i o (by omega) (hpo i o him ho) (by rw [hd0, ← hd', hdj])
    have base' : ∀ (v : Value) (s : Nat), (∀ (j : Nat) (o : Oper), j < m → l.toArray[j]? = some o → o.dst ≠ some s) → (a.put o.dst v).tmps[s]? = a0.tmps[s]? := fun v s h => by
      rw [hputb v s (h i o him ho)]; exact hI.base s h
    rcases each.at_ i o ho' with ⟨p, hp, hst⟩ | ⟨hnh, hst⟩
    · -- one that changes memory
      simp only [Nat.zero_add] at hp hst
      have hpk : p = k := by
        have h1 := hks p i hp
        rw [hnf] at h1
        have h1' : ¬ p < k := by simpa using h1.symm
        rcases Nat.lt_or_ge k p with q | q
        · exfalso
          obtain ⟨d2, rfl⟩ : ∃ d2, p = d2 + 1 := ⟨p - 1, by omega⟩
          have hl2 := (List.getElem?_eq_some_iff.1 hp).1
          obtain ⟨x, hx⟩ : ∃ x, heavy[d2]? = some x := ⟨_, List.getElem?_eq_getElem (by omega)⟩
          obtain ⟨-, o2, ho2, hne⟩ := heavyOK_next hhv hx hp
          rw [ho] at ho2; injection ho2 with ho2; subst ho2
          have h3 := needsOp_spec hC _ o hne hd
          rw [hks d2 x hx] at h3
          have : d2 < k := by simpa using h3
          omega
        · omega
      subst hpk
      obtain ⟨h1, h2⟩ := hst a w hI.relw hinv hdeps hfree
      refine wpOp_step' ho h1 (h2 _ fun v w' hv hr hi' => ⟨⟨by simpa using hI0, hC.set hs hi⟩, ?_⟩)
      have notlate : ∀ j, listed.getD j false = true → j < m → late.contains j = false := fun j hl hj => by
        cases hc : late.contains j with
        | false => rfl
        | true =>
          exfalso
          unfold heavyOK at hhv
          rw [Bool.and_eq_true] at hhv
          have h3 := List.all_eq_true.1 hhv.2 j (by simpa using hc)
          cases hlast : heavy.getLast? with
          | none =>
            rw [List.getLast?_eq_none_iff] at hlast
            subst hlast; simp at hp
          | some hL =>
            rw [hlast] at h3
            have hLl : listed.getD hL false = true := by
              simp only [Bool.or_eq_true, beq_iff_eq] at h3
              rcases h3 with h3 | h3
              · subst h3; exact hl
              · have hj' : l.toArray[j]? = some l.toArray[j] := Array.getElem?_eq_getElem (by omega)
                rw [hj'] at h3
                exact needsOp_spec hC _ _ h3 (hC j _ hl hj')
            have hLi : heavy[heavy.length - 1]? = some hL := by rw [← List.getLast?_eq_getElem?]; exact hlast
            have h5 := hks _ hL hLi
            rw [hLl] at h5
            have h6 : heavy.length - 1 < p := by simpa using h5.symm
            have h7 := (List.getElem?_eq_some_iff.1 hp).1
            omega
      refine ⟨by rw [Act.put_size]; exact hI.size, by rw [Act.put_defers']; exact hI.defers, base' v, slots v w' hv (fun j u hj hl h => factsLast_rel mono j u w w' (by rw [Nat.zero_add]; exact notlate j hl hj) h hr), rtrans _ _ _ hI.relw hr, p + 1, (List.getElem?_eq_some_iff.1 hp).1, hi', fun q x hx => ?_⟩
      by_cases e : q = p
      · subst e
        rw [hp] at hx; injection hx with hx; subst hx
        rw [getD_set_self7 hil]; simp
      · have hxi : i ≠ x := by
          rintro rfl
          rcases Nat.lt_or_ge q p with h | h
          · have := heavyOK_inj hhv (p - q - 1) q i i hx (by rw [show q + (p - q - 1) + 1 = p from by omega]; exact hp); omega
          · have := heavyOK_inj hhv (q - p - 1) p i i hp (by rw [show p + (q - p - 1) + 1 = q from by omega]; exact hx); omega
        rw [getD_set_ne false hxi, hks q x hx]
        congr 1
        exact propext ⟨fun h => by omega, fun h => by omega⟩
    · -- one that does not
      simp only [Nat.zero_add] at hst hnh
      have fin : ∀ v w', facts Fs i v w' → Ext w w' → (∃ q : Nat, heavy[q]? = some i) ∨ Flow7S W0 a0 l.toArray m heavy rel Inv (facts Fs) (listed.setIfInBounds i true) (a.put o.dst v) w' := fun v w' hv hx => by
        by_cases hh : ∃ q : Nat, heavy[q]? = some i
        · exact .inl hh
        · right
          obtain ⟨k1, k2⟩ := inve k w w' hinv hx
          refine ⟨by rw [Act.put_size]; exact hI.size, by rw [Act.put_defers']; exact hI.defers, base' v, slots v w' hv (fun j u _ _ h => factsLast_ext mono j u w w' h hx k2), rtrans _ _ _ hI.relw k2, k, hkl, k1, fun q x hx' => ?_⟩
          have hxi : i ≠ x := by rintro rfl; exact hh ⟨q, hx'⟩
          rw [getD_set_ne false hxi]; exact hks q x hx'
      by_cases hh : ∃ q : Nat, heavy[q]? = some i
      · exfalso
        obtain ⟨q, hq⟩ := hh
        have h1 : i ∈ heavy := List.mem_of_getElem? hq
        rw [List.contains_iff_mem.2 h1] at hnh
        cases hnh
      · rcases hst a w k hI.relw hinv hdeps hfree with ⟨h1, h2⟩ | ⟨h1, h2⟩
        · exact wpOp_step' ho h1 (h2 _ fun v w' hv hx => ⟨⟨by simpa using hI0, hC.set hs hi⟩, (fin v w' hv hx).resolve_left hh⟩)
        · exact wpOp_skip' ho h1 ⟨⟨by simpa using hI0, hC.set hs hi⟩, (fin undef w h2 (Ext.refl _)).resolve_left hh⟩
  · rintro listed a w hs ⟨⟨hI0, -⟩, hI⟩ hr
    have : ∀ (k j : Nat), j < k → j < m → listed.getD j false = true := by
      intro k
      induction k with
      | zero => intro j h; omega
      | succ k ih =>
        intro j h1 h2
        by_cases hl : listed.getD j false = true
        · exact hl
        · exfalso
          have hj : l.toArray[j]? = some l.toArray[j] := Array.getElem?_eq_getElem (by omega)
          have hmem : j ∈ Region.ready .any l.toArray listed := by
            unfold Region.ready
            refine List.mem_filter.2 ⟨List.mem_range.2 (by omega), ?_⟩
            rw [hj]
            simp only [Bool.and_eq_true, Option.map_some, Option.getD_some]
            refine ⟨?_, Array.all_eq_true'.2 fun e he => ?_⟩
            · have h2' : j < listed.size := by omega
              simp only [Array.getD, h2', dif_pos] at hl ⊢
              simpa using hl
            · cases hbd : Region.binds .any e with
              | false => rfl
              | true =>
                have he' := hdep j _ e h2 hj (by simpa using he) hbd
                rw [ih e.on (by omega) (by omega)]; rfl
          rw [hr] at hmem; cases hmem
    exact fun j hj => this (j + 1) j (Nat.lt_succ_self j) hj
  · rintro a w ⟨-, hI⟩
    obtain ⟨k, hkl, hinv, hks⟩ := hI.inv
    have hkk : k = heavy.length := by
      rcases Nat.lt_or_ge k heavy.length with q | q
      · exfalso
        obtain ⟨x, hx⟩ : ∃ x, heavy[k]? = some x := ⟨_, List.getElem?_eq_getElem q⟩
        have h1 := hks k x hx
        have h2 := heavyOK_lt hhv hx
        have h3 : (preL m n).getD x false = true := by
          rw [Array.getD_eq_getD_getElem?]; simp [preL, List.getElem?_append, h2]
        rw [h3] at h1
        simp at h1
      · omega
    subst hkk
    have hx := rest w hI.relw hinv
    obtain ⟨vs, g1, g2, g3⟩ := forFacts_get (a := a) (os := l.take m) (by rw [hfl, hlt]) hx (fun j o hj => by
      obtain ⟨d, h1, h2, -, -⟩ := flow_dst hok (by simpa using hj)
      have hjm : j < m := by have := (List.getElem?_eq_some_iff.1 hj).1; omega
      obtain ⟨v, k1, k2⟩ := hI.slot j o d hjm (by
        rw [Array.getD_eq_getD_getElem?]; simp [preL, List.getElem?_append, hjm]) (by rw [List.getElem?_take_of_lt hjm] at hj; simpa using hj) h1
      exact ⟨d, v, h1, k1, k2⟩)
    have ha : a = putAll a0 (l.take m) vs := eq_putAll g1 hI.size hI.defers (fun s hs => hI.base s (fun j o hj ho => hs o (List.mem_of_getElem? (by rw [List.getElem?_take_of_lt hj]; simpa using ho : (l.take m)[j]? = some o)))) (fun j o d hj hd => by
      obtain ⟨d', h1, h2, -, -⟩ := flow_dst hok (j := j) (by simpa using hj)
      rw [hd] at h1; injection h1 with h1; subst h1
      exact ⟨h2, g3 j o d hj hd⟩)
    rw [ha]; exact g2
  · rw [Array.toList_replicate, List.count_replicate]; simp; omega
  · intro j hj
    rw [Array.getD_eq_getD_getElem?, Array.getElem?_replicate]
    split <;> rfl
  · have hz : ∀ j, (Array.replicate l.toArray.size false).getD j false = false := fun j => by
      rw [Array.getD_eq_getD_getElem?, Array.getElem?_replicate]
      split <;> rfl
    obtain ⟨k1, k2⟩ := inve 0 W0 _ start (Ext.refl W0).drew
    exact ⟨⟨by simpa using hsz, fun i o h => by rw [hz] at h; cases h⟩, ⟨rfl, rfl, fun s _ => rfl, (fun j o d _ h => by rw [hz] at h; cases h), k2, 0, Nat.zero_le _, k1, fun q i _ => by rw [hz]; simp⟩⟩
end Go.Proofs.Ytlafiddfplhafaa
/- The smith's memory: its rows, what its methods may write, what they leave. -/
namespace Go.Proofs.Ytlafiddfplhafaa
set_option linter.unusedVariables false
set_option linter.unusedSimpArgs false
open Go.RowKit
theorem Box.neq {w : World} {b g : Nat} {T T' : TypeId} {cs cs' : List Value} (h : Box w b T cs) (k : Box w g T' cs') (hne : T ≠ T') : b ≠ g := by
  rintro rfl
  unfold Box at h k
  rw [h] at k
  injection k with k; injection k with _ k
  exact hne k
/-- A row of gates of the call's own (the args' rows may be shared). -/
structure RowG (w : World) (base : Nat) (s : Value) (gs : List GateM) (vs : List Value) : Prop where
  vl : vs.length = gs.length
  row : w.ownsRow base 95 3 s gs.length (gateCs gs vs)
  own : ∀ (k : Nat) v g, vs[k]? = some v → gs[k]? = some g → w.ownsRow base 3 1 v g.args.length (g.args.map I)
section
variable {w w' : World} {base : Nat} {s : Value} {gs : List GateM} {vs : List Value}
theorem RowG.nil (w : World) (base : Nat) : RowG w base (.slice none 0 0) [] [] := ⟨rfl, World.ownsRow_nil _ _ _ _, fun k v g h => by simp at h⟩
theorem RowG.ext (h : RowG w base s gs vs) (hx : Ext w w') : RowG w' base s gs vs := ⟨h.vl, own_ext h.row hx, fun k v g hv hg => own_ext (h.own k v g hv hg) hx⟩
theorem RowG.kept {row : Option Nat} (h : RowG w base s gs vs) (hg : w.grownBy w' row) (hs : s.ownBlock = none ∨ s.ownBlock ≠ row) (hv : ∀ v ∈ vs, v.ownBlock = none ∨ v.ownBlock ≠ row) : RowG w' base s gs vs :=
  ⟨h.vl, h.row.kept hg hs, fun k v g hk hgk => (h.own k v g hk hgk).kept hg (hv v (List.mem_of_getElem? hk))⟩
theorem RowG.push (h : RowG w base s gs vs) {s' v : Value} {g : GateM} (hv : w.ownsRow base 3 1 v g.args.length (g.args.map I))
    (hown : w'.ownsRow base 95 3 s' (gs.length + 1) (gateCs gs vs ++ [I g.kind, I g.num, v])) (hg : w.grownBy w' s.ownBlock) : RowG w' base s' (gs ++ [g]) (vs ++ [v]) := by
  have hvl := h.vl
  refine ⟨by simp [hvl], by rw [gateCs_snoc gs vs g v hvl]; simpa using hown, fun k y z hy hz => ?_⟩
  by_cases hk : k < vs.length
  · rw [List.getElem?_append_left hk] at hy
    rw [List.getElem?_append_left (by omega)] at hz
    have h1 := h.own k y z hy hz
    exact h1.kept hg (own_types h1 h.row (by decide))
  · rw [List.getElem?_append_right (by omega)] at hy hz
    rw [← hvl] at hz
    cases hq : k - vs.length with
    | zero =>
      rw [hq] at hy hz
      simp at hy hz
      subst hy; subst hz
      exact hv.kept hg (own_types hv h.row (by decide))
    | succ q => rw [hq] at hy; simp at hy
theorem RowG.set {b : Nat} (h : RowG w base s gs vs) (hs : s.ownBlock ≠ some b) (hv : ∀ v ∈ vs, v.ownBlock ≠ some b) (j : Nat) (u : Value) : RowG (w.setCell ⟨b, j, none⟩ u) base s gs vs :=
  h.kept (grownBy_set w b j u) (.inr hs) (fun v hm => .inr (hv v hm))
theorem RowG.slG (h : RowG w base s gs vs) : ∃ A c, s = .slice A gs.length c ∧ gs.length ≤ c ∧ c ≤ maxLen ∧ SlG w A gs.length gs := by
  obtain ⟨A, c, rfl, h1, h2, hc⟩ := own_slice h.row
  refine ⟨A, c, rfl, h1, h2, rfl, fun k g hg => ?_⟩
  have hk : k < vs.length := by have := h.vl; have := (List.getElem?_eq_some_iff.1 hg).1; omega
  obtain ⟨e0, e1, e2⟩ := gateCs_at gs vs k g _ hg (List.getElem?_eq_getElem hk)
  obtain ⟨b, off, e, c0⟩ := hc _ _ e0
  obtain ⟨b', off', e', c1⟩ := hc _ _ e1
  rw [e] at e'; injection e' with e'; injection e' with q1 q2; subst q1; subst q2
  obtain ⟨b', off', e', c2⟩ := hc _ _ e2
  rw [e] at e'; injection e' with e'; injection e' with q1 q2; subst q1; subst q2
  obtain ⟨A', c', ev, g1, g2, hs⟩ := own_sl (h.own k _ g (List.getElem?_eq_getElem hk) hg)
  exact ⟨b, off, A', g.args.length, c', e, c0, c1, by rw [← Nat.add_assoc] at c2; rw [c2, ev], hs, g1, g2⟩
end
/-- What the smith has made. -/
structure SmithM where
  gs : List GateM
  rs : List StoreM
  outs : List Int
  ins : List Int
  was : List Int
  em : List (List Int)
  rv : Value
  iv : Value
  wv : Value
  eb : Nat
  es : List Value
/-- The rows' values. -/
structure SmithV where
  gv : Value
  rv : Value
  ov : Value
  iv : Value
  wv : Value
  eb : Nat
  gas : List Value
  es : List Value
abbrev SmithV.cells (V : SmithV) (i0 : Int) (pv : Value) : List Value := [I i0, V.gv, V.rv, V.ov, pv, V.iv, V.wv, .slice (some ⟨V.eb, 0, none⟩) 3 3]
structure SmithW (w : World) (base b : Nat) (i0 : Int) (pv : Value) (S : SmithM) (V : SmithV) : Prop where
  box : Box w b 74 (V.cells i0 pv)
  gates : RowG w base V.gv S.gs V.gas
  regs : w.ownsRow base 79 2 V.rv S.rs.length (storeCs S.rs)
  outs : w.ownsRow base 3 1 V.ov S.outs.length (S.outs.map I)
  ins : w.ownsRow base 3 1 V.iv S.ins.length (S.ins.map I)
  was : w.ownsRow base 3 1 V.wv S.was.length (S.was.map I)
  ebox : Box w V.eb 23 V.es
  el : V.es.length = 3 ∧ S.em.length = 3
  em : ∀ (k : Nat) v r, V.es[k]? = some v → S.em[k]? = some r → w.ownsRow base 3 1 v r.length (r.map I)
  ge : base ≤ b ∧ base ≤ V.eb
/-- Blocks that the smith's methods may write. -/
def FootW (b : Nat) (w : World) (k : Nat) : Prop :=
  k = b ∨ (∃ i v, i ≠ 4 ∧ w.cell? ⟨b, i, none⟩ = some v ∧ v.ownBlock = some k) ∨ (∃ eb n c i v, w.cell? ⟨b, 7, none⟩ = some (.slice (some ⟨eb, 0, none⟩) n c) ∧ w.cell? ⟨eb, i, none⟩ = some v ∧ v.ownBlock = some k)
/-- All else is as it was, and stays out of what may be written. -/
def RelF (b : Nat) (w w' : World) : Prop := w.heap.size ≤ w'.heap.size ∧ ∀ k, k < w.heap.size → ¬ FootW b w k → w'.heap[k]? = w.heap[k]? ∧ ¬ FootW b w' k
theorem RelF.refl (b : Nat) (w : World) : RelF b w w := ⟨Nat.le_refl _, fun k _ h => ⟨rfl, h⟩⟩
theorem RelF.trans {b : Nat} {w w' w'' : World} (h : RelF b w w') (k : RelF b w' w'') : RelF b w w'' :=
  ⟨Nat.le_trans h.1 k.1, fun j hj hf => have q := h.2 j hj hf; have r := k.2 j (Nat.lt_of_lt_of_le hj h.1) q.2; ⟨r.1.trans q.1, r.2⟩⟩
theorem RelF.box {b : Nat} {w w' : World} (h : RelF b w w') {g : Nat} {T : TypeId} {cs : List Value} (hb : Box w g T cs) (hf : ¬ FootW b w g) : Box w' g T cs ∧ ¬ FootW b w' g :=
  have q := h.2 g hb.lt hf
  ⟨q.1.trans hb, q.2⟩
theorem RelF.own {b : Nat} {w w' : World} (h : RelF b w w') {base : Nat} {e : TypeId} {size n : Nat} {v : Value} {xs : List Value} (ho : w.ownsRow base e size v n xs) (hf : ∀ g, v.ownBlock = some g → ¬ FootW b w g) : w'.ownsRow base e size v n xs ∧ ∀ g, v.ownBlock = some g → ¬ FootW b w' g := by
  rcases ho with ⟨hl, ⟨rfl, rfl⟩ | ⟨g, cap, cur, rfl, hg, hh, r⟩⟩
  · exact ⟨⟨hl, .inl ⟨rfl, rfl⟩⟩, fun g h => by simp [Value.ownBlock] at h⟩
  · have hlt := (Array.getElem?_eq_some_iff.1 hh).1
    have q := h.2 g hlt (hf g rfl)
    exact ⟨⟨hl, .inr ⟨g, cap, cur, rfl, hg, q.1.trans hh, r⟩⟩, fun g' h' => by simp only [Value.ownBlock, Option.some.injEq] at h'; subst h'; exact q.2⟩
section
variable {w w' : World} {base b : Nat} {i0 : Int} {pv : Value} {S : SmithM} {V : SmithV}
theorem SmithW.ext (h : SmithW w base b i0 pv S V) (hx : Ext w w') : SmithW w' base b i0 pv S V :=
  ⟨h.box.ext hx, h.gates.ext hx, own_ext h.regs hx, own_ext h.outs hx, own_ext h.ins hx, own_ext h.was hx, h.ebox.ext hx, h.el, fun k v r hv hr => own_ext (h.em k v r hv hr) hx, h.ge⟩
theorem SmithW.foot (h : SmithW w base b i0 pv S V) (k : Nat) : FootW b w k ↔ (k = b ∨ V.gv.ownBlock = some k ∨ V.rv.ownBlock = some k ∨ V.ov.ownBlock = some k ∨ V.iv.ownBlock = some k ∨ V.wv.ownBlock = some k ∨ k = V.eb ∨ ∃ v ∈ V.es, v.ownBlock = some k) := by
  have hc := h.box.cell
  have he := h.ebox.cell
  constructor
  · rintro (rfl | ⟨i, v, h4, h1, h2⟩ | ⟨eb, n, c, i, v, h1, h2, h3⟩)
    · exact .inl rfl
    · rw [hc i] at h1
      rcases i with _ | _ | _ | _ | _ | _ | _ | _ | i
      all_goals simp only [List.getElem?_cons_zero, List.getElem?_cons_succ, List.getElem?_nil, Option.some.injEq, reduceCtorEq] at h1
      · subst h1; simp [Value.ownBlock] at h2
      · subst h1; exact .inr (.inl h2)
      · subst h1; exact .inr (.inr (.inl h2))
      · subst h1; exact .inr (.inr (.inr (.inl h2)))
      · exact absurd rfl h4
      · subst h1; exact .inr (.inr (.inr (.inr (.inl h2))))
      · subst h1; exact .inr (.inr (.inr (.inr (.inr (.inl h2)))))
      · subst h1
        simp only [Value.ownBlock, Option.some.injEq] at h2
        exact .inr (.inr (.inr (.inr (.inr (.inr (.inl h2.symm))))))
    · rw [hc 7] at h1
      simp only [List.getElem?_cons_zero, List.getElem?_cons_succ, Option.some.injEq, Value.slice.injEq, Addr.mk.injEq] at h1
      obtain ⟨⟨rfl, -⟩, -⟩ := h1
      rw [he i] at h2
      exact .inr (.inr (.inr (.inr (.inr (.inr (.inr ⟨v, List.mem_of_getElem? h2, h3⟩))))))
  · rintro (rfl | e | e | e | e | e | rfl | ⟨v, hv, e⟩)
    · exact .inl rfl
    · exact .inr (.inl ⟨1, V.gv, by decide, by rw [hc]; rfl, e⟩)
    · exact .inr (.inl ⟨2, V.rv, by decide, by rw [hc]; rfl, e⟩)
    · exact .inr (.inl ⟨3, V.ov, by decide, by rw [hc]; rfl, e⟩)
    · exact .inr (.inl ⟨5, V.iv, by decide, by rw [hc]; rfl, e⟩)
    · exact .inr (.inl ⟨6, V.wv, by decide, by rw [hc]; rfl, e⟩)
    · exact .inr (.inl ⟨7, .slice (some ⟨V.eb, 0, none⟩) 3 3, by decide, by rw [hc]; rfl, rfl⟩)
    · obtain ⟨i, hi⟩ := List.mem_iff_getElem?.1 hv
      exact .inr (.inr ⟨V.eb, 3, 3, i, v, by rw [hc]; rfl, by rw [he]; exact hi, e⟩)
theorem SmithW.esOwn (h : SmithW w base b i0 pv S V) {v : Value} (hv : v ∈ V.es) : ∃ n xs, w.ownsRow base 3 1 v n xs := by
  obtain ⟨i, hi⟩ := List.mem_iff_getElem?.1 hv
  have hl := (List.getElem?_eq_some_iff.1 hi).1
  have := h.el
  exact ⟨_, _, h.em i v _ hi (List.getElem?_eq_getElem (by omega))⟩
theorem SmithW.foot_lt (h : SmithW w base b i0 pv S V) {k : Nat} (hk : FootW b w k) : base ≤ k ∧ k < w.heap.size := by
  rcases (h.foot k).1 hk with rfl | e | e | e | e | e | rfl | ⟨v, hv, e⟩
  · exact ⟨h.ge.1, h.box.lt⟩
  · exact h.gates.row.lt k e
  · exact h.regs.lt k e
  · exact h.outs.lt k e
  · exact h.ins.lt k e
  · exact h.was.lt k e
  · exact ⟨h.ge.2, h.ebox.lt⟩
  · obtain ⟨n, xs, ho⟩ := h.esOwn hv
    exact ho.lt k e
theorem SmithW.rel_ext (h : SmithW w base b i0 pv S V) (hx : Ext w w') : RelF b w w' :=
  ⟨hx.size, fun k hk hf => ⟨hx.block k hk, fun e => hf ((h.foot k).2 (((h.ext hx).foot k).1 e))⟩⟩
/-- A new block is no part of what may be written. -/
theorem SmithW.fresh (h : SmithW w base b i0 pv S V) (hx : Ext w w') {k : Nat} (hk : w.heap.size ≤ k) : ¬ FootW b w' k := fun e => by
  have := (h.foot_lt ((h.foot k).2 (((h.ext hx).foot k).1 e))).2
  omega
/-- The rows by which outputs are put out lie apart from all else. -/
def NodeSep (V : SmithV) : Prop := V.ov.ownBlock = none ∧ ∀ (k : Nat) e, V.es[k]? = some e → ∀ g, e.ownBlock = some g →
  (∀ v ∈ V.gas, v.ownBlock ≠ some g) ∧ V.ov.ownBlock ≠ some g ∧ V.iv.ownBlock ≠ some g ∧ V.wv.ownBlock ≠ some g ∧ ∀ (j : Nat) u, j ≠ k → V.es[j]? = some u → u.ownBlock ≠ some g
/-- The smith, its rows apart. -/
def SmithP (w : World) (base b : Nat) (i0 : Int) (pv : Value) (S : SmithM) : Prop := ∃ V, SmithW w base b i0 pv S V ∧ NodeSep V ∧ V.rv = S.rv ∧ V.iv = S.iv ∧ V.wv = S.wv ∧ V.eb = S.eb ∧ V.es = S.es
theorem SmithP.ext (h : SmithP w base b i0 pv S) (hx : Ext w w') : SmithP w' base b i0 pv S := let ⟨V, h1, h2⟩ := h; ⟨V, h1.ext hx, h2⟩
theorem SmithP.cellR (h : SmithP w base b i0 pv S) : w.cell? ⟨b, 2, none⟩ = some S.rv := let ⟨V, h1, _, e, _⟩ := h; by rw [← e]; exact h1.box.cell 2
theorem SmithP.cellP (h : SmithP w base b i0 pv S) : w.cell? ⟨b, 4, none⟩ = some pv := let ⟨V, h1, _⟩ := h; h1.box.cell 4
theorem SmithP.cellI (h : SmithP w base b i0 pv S) : w.cell? ⟨b, 5, none⟩ = some S.iv := let ⟨V, h1, _, _, e, _⟩ := h; by rw [← e]; exact h1.box.cell 5
theorem SmithP.cellW (h : SmithP w base b i0 pv S) : w.cell? ⟨b, 6, none⟩ = some S.wv := let ⟨V, h1, _, _, _, e, _⟩ := h; by rw [← e]; exact h1.box.cell 6
theorem SmithP.cellE (h : SmithP w base b i0 pv S) : w.cell? ⟨b, 7, none⟩ = some (.slice (some ⟨S.eb, 0, none⟩) 3 3) := let ⟨V, h1, _, _, _, _, e, _⟩ := h; by rw [← e]; exact h1.box.cell 7
theorem SmithP.regs (h : SmithP w base b i0 pv S) : w.ownsRow base 79 2 S.rv S.rs.length (storeCs S.rs) := let ⟨V, h1, _, e, _⟩ := h; by rw [← e]; exact h1.regs
theorem SmithP.ins (h : SmithP w base b i0 pv S) : w.ownsRow base 3 1 S.iv S.ins.length (S.ins.map I) := let ⟨V, h1, _, _, e, _⟩ := h; by rw [← e]; exact h1.ins
theorem SmithP.was (h : SmithP w base b i0 pv S) : w.ownsRow base 3 1 S.wv S.was.length (S.was.map I) := let ⟨V, h1, _, _, _, e, _⟩ := h; by rw [← e]; exact h1.was
theorem SmithP.ebox (h : SmithP w base b i0 pv S) : Box w S.eb 23 S.es := let ⟨V, h1, _, _, _, _, e1, e2⟩ := h; by rw [← e1, ← e2]; exact h1.ebox
theorem SmithP.rel_ext (h : SmithP w base b i0 pv S) (hx : Ext w w') : RelF b w w' := let ⟨_, h1, _⟩ := h; h1.rel_ext hx
theorem SmithP.fresh (h : SmithP w base b i0 pv S) (hx : Ext w w') {k : Nat} (hk : w.heap.size ≤ k) : ¬ FootW b w' k := let ⟨_, h1, _⟩ := h; h1.fresh hx hk
abbrev SmithM.pushG (S : SmithM) (g : GateM) : SmithM := { S with gs := S.gs ++ [g] }
abbrev SmithM.pushR (S : SmithM) (r : StoreM) (rv' : Value) : SmithM := { S with rs := S.rs ++ [r], rv := rv' }
/-- One gate more. -/
theorem SmithW.pushG (h : SmithW w base b i0 pv S V) {gv' av : Value} {g : GateM} (hav : w.ownsRow base 3 1 av g.args.length (g.args.map I))
    (hown : w'.ownsRow base 95 3 gv' (S.gs.length + 1) (gateCs S.gs V.gas ++ [I g.kind, I g.num, av])) (hg : w.grownBy w' V.gv.ownBlock) :
    SmithW (w'.setCell ⟨b, 1, none⟩ gv') base b i0 pv (S.pushG g) { V with gv := gv', gas := V.gas ++ [av] } := by
  have hb : V.gv.ownBlock ≠ some b := h.box.apart h.gates.row (by decide)
  have hbe : V.eb ≠ b := h.ebox.neq h.box (by decide)
  have hge : V.gv.ownBlock ≠ some V.eb := h.ebox.apart h.gates.row (by decide)
  have kb := h.box.kept hg hb
  have ke := h.ebox.kept hg hge
  have kr := h.regs.kept hg (own_types h.regs h.gates.row (by decide))
  have ko := h.outs.kept hg (own_types h.outs h.gates.row (by decide))
  have ki := h.ins.kept hg (own_types h.ins h.gates.row (by decide))
  have kw := h.was.kept hg (own_types h.was h.gates.row (by decide))
  have kg := h.gates.push hav hown hg
  refine ⟨kb.set 1 gv', kg.set (kb.apart kg.row (by decide)) (fun v hv => ?_) 1 gv', own_set kr (kb.apart kr (by decide)) 1 gv', own_set ko (kb.apart ko (by decide)) 1 gv', own_set ki (kb.apart ki (by decide)) 1 gv', own_set kw (kb.apart kw (by decide)) 1 gv',
    ke.kept (grownBy_set w' b 1 gv') (fun e => hbe (by injection e with e; exact e.symm)), h.el, fun k v r hv hr => ?_, h.ge⟩
  · obtain ⟨j, hj⟩ := List.mem_iff_getElem?.1 hv
    have hl : j < (S.gs ++ [g]).length := by have := (List.getElem?_eq_some_iff.1 hj).1; have := kg.vl; omega
    exact kb.apart (kg.own j v _ hj (List.getElem?_eq_getElem hl)) (by decide)
  · have k1 := h.em k v r hv hr
    have k2 := k1.kept hg (own_types k1 h.gates.row (by decide))
    exact own_set k2 (kb.apart k2 (by decide)) 1 gv'
/-- One register more. -/
theorem SmithW.pushR (h : SmithW w base b i0 pv S V) {rv' : Value} {r : StoreM} (hown : w'.ownsRow base 79 2 rv' (S.rs.length + 1) (storeCs S.rs ++ [RB r, RN r])) (hg : w.grownBy w' V.rv.ownBlock) :
    SmithW (w'.setCell ⟨b, 2, none⟩ rv') base b i0 pv (S.pushR r rv') { V with rv := rv' } := by
  have hb : V.rv.ownBlock ≠ some b := h.box.apart h.regs (by decide)
  have hbe : V.eb ≠ b := h.ebox.neq h.box (by decide)
  have hge : V.rv.ownBlock ≠ some V.eb := h.ebox.apart h.regs (by decide)
  have kb := h.box.kept hg hb
  have ke := h.ebox.kept hg hge
  have kg := h.gates.kept hg (own_types h.gates.row h.regs (by decide)) (fun v hv => by
    obtain ⟨j, hj⟩ := List.mem_iff_getElem?.1 hv
    have hl : j < S.gs.length := by have := (List.getElem?_eq_some_iff.1 hj).1; have := h.gates.vl; omega
    exact own_types (h.gates.own j v _ hj (List.getElem?_eq_getElem hl)) h.regs (by decide))
  have ko := h.outs.kept hg (own_types h.outs h.regs (by decide))
  have ki := h.ins.kept hg (own_types h.ins h.regs (by decide))
  have kw := h.was.kept hg (own_types h.was h.regs (by decide))
  have kr : w'.ownsRow base 79 2 rv' (S.rs ++ [r]).length (storeCs (S.rs ++ [r])) := by
    have e : storeCs (S.rs ++ [r]) = storeCs S.rs ++ [RB r, RN r] := by simp [storeCs]
    rw [e]; simpa using hown
  refine ⟨kb.set 2 rv', kg.set (kb.apart kg.row (by decide)) (fun v hv => ?_) 2 rv', own_set kr (kb.apart kr (by decide)) 2 rv', own_set ko (kb.apart ko (by decide)) 2 rv', own_set ki (kb.apart ki (by decide)) 2 rv', own_set kw (kb.apart kw (by decide)) 2 rv',
    ke.kept (grownBy_set w' b 2 rv') (fun e => hbe (by injection e with e; exact e.symm)), h.el, fun k v r' hv hr => ?_, h.ge⟩
  · obtain ⟨j, hj⟩ := List.mem_iff_getElem?.1 hv
    have hl : j < S.gs.length := by have := (List.getElem?_eq_some_iff.1 hj).1; have := kg.vl; omega
    exact kb.apart (kg.own j v _ hj (List.getElem?_eq_getElem hl)) (by decide)
  · have k1 := h.em k v r' hv hr
    have k2 := k1.kept hg (own_types k1 h.regs (by decide))
    exact own_set k2 (kb.apart k2 (by decide)) 2 rv'
/-- What a method leaves: a row grown (v, then v'), the smith's own cell stored. -/
theorem SmithW.rel_push (h : SmithW w base b i0 pv S V) {V' : SmithV} {S' : SmithM} {v v' : Value} {i : Nat} (h' : SmithW (w'.setCell ⟨b, i, none⟩ v') base b i0 pv S' V') (hg : w.grownBy w' v.ownBlock) (hv : ∀ g, v.ownBlock = some g → FootW b w g)
    (hn : ∀ g, v'.ownBlock = some g → v.ownBlock = some g ∨ w.heap.size ≤ g) (hV : ∀ k, FootW b (w'.setCell ⟨b, i, none⟩ v') k → v'.ownBlock = some k ∨ FootW b w k) : RelF b w (w'.setCell ⟨b, i, none⟩ v') := by
  refine ⟨Nat.le_trans hg.size (by simp [World.setCell]), fun k hk hf => ⟨?_, fun e => ?_⟩⟩
  · have hkb : k ≠ b := fun e => hf (by rw [e]; exact .inl rfl)
    rw [Below.heap_setCell _ _ _ _ (show k ≠ b from hkb)]
    exact hg.block k hk (fun e => hf (hv k e.symm))
  · rcases hV k e with e1 | e1
    · rcases hn k e1 with e2 | e2
      · exact hf (hv k e2)
      · omega
    · exact hf e1
end
end Go.Proofs.Ytlafiddfplhafaa
/- A gate that is made; a store; all, any, not. -/
namespace Go.Proofs.Ytlafiddfplhafaa
set_option linter.unusedVariables false
set_option linter.unusedSimpArgs false
open Go.RowKit
theorem tab_gateF : (Try.prog.info? 95).map (fun i => (i.zero, i.size, i.bytes)) = some (some (.agg #[.int .i64 0, .int .i64 0, .slice none 0 0]), 3, 40) := by kernel_rfl
/-- What gate leaves. -/
structure GateP (w w' : World) (base b : Nat) (i0 : Int) (pv : Value) (S : SmithM) (V : SmithV) (g : GateM) (av : Value) (e : Ending) : Prop where
  ret : e = .returned (I S.gs.length)
  below : Below base w w'
  rel : RelF b w w'
  ex : ∃ gv', SmithW w' base b i0 pv (S.pushG g) { V with gv := gv', gas := V.gas ++ [av] }
section
variable {w w' : World} {base b : Nat} {i0 : Int} {pv : Value} {S : SmithM} {V : SmithV}
theorem SmithW.size (h : SmithW w base b i0 pv S V) : base ≤ w.heap.size ∧ b < w.heap.size := by have := h.box.lt; have := h.ge; omega
set_option maxHeartbeats 4000000 in
set_option maxRecDepth 100000 in
theorem gate_any (h : SmithW w base b i0 pv S V) (kd nm : Int) (av : Value) (args : List Int) (hav : w.ownsRow base 3 1 av args.length (args.map I)) (hl : S.gs.length ≤ 1000) :
    Calls Try.prog 37 #[.pointer (some ⟨b, 0, none⟩), I kd, I nm, av] w fun e w' => GateP w w' base b i0 pv S V ⟨kd, nm, args⟩ av e := by
  obtain ⟨hs1, hs2⟩ := h.size
  obtain ⟨gn, hgn⟩ : ∃ gn, gn = S.gs.length := ⟨_, rfl⟩
  obtain ⟨gA, gc, egv, -, -, -⟩ := own_slice h.gates.row
  rw [← hgn] at egv
  obtain ⟨aA, ac, eav, -, -, -⟩ := own_slice hav
  have m1 := (h.box.cell 1).trans rfl
  simp only [List.getElem?_cons_zero, List.getElem?_cons_succ] at m1
  rw [egv] at m1
  rw [← hgn] at hl
  have HS := Lib.hid h; have HGN := Lib.hid hgn; have HA := Lib.hid hav; have HS1 := Lib.hid hs1; have HEV := Lib.hid egv
  obtain ⟨inf, hti, htz, hts1, hts2⟩ := info_parts tab_gateF
  have HTI := Lib.hid hti; have HTZ := Lib.hid htz; have HT1 := Lib.hid hts1; have HT2 := Lib.hid hts2
  obtain ⟨an, han⟩ : ∃ an, an = args.length := ⟨_, rfl⟩
  have HAN := Lib.hid han
  rw [← han] at eav
  rw [eav]
  have HEAV := Lib.hid eav
  clear h hgn hav hs1 egv hti htz hts1 hts2 han eav
  go_enter Try.func37, Try.ntmps37
  go_wp2_with (at_builtin; refine wpList_append_lies _ rfl (.tmp 14) (.tmp 19) 36 rfl base 95 inf _ 3 40 Try.underlying36 HTI.out HTZ.out HT1.out HT2.out rfl (by omega) (.slice gA gn gc) gn (gateCs S.gs V.gas) rfl (by have := (HS.out.ext ((Ext.refl w).alloc (.cells #[I kd, I nm, .slice aA an ac] 95))).gates.row; rw [← HGN.out, HEV.out] at this; exact this) ⟨w.heap.size, 0, none⟩ 1 1 [I kd, I nm, .slice aA an ac] rfl rfl (fun j u hu => by rw [add_zero, World.cell?_alloc_new]; simpa using hu) (by simp [Value.oneCell']) (by omega) (by unfold maxLen; omega) (by omega) (Nat.le_trans HS1.out (by simp)) _ rfl ?_; intro g6 cap6 w6 hown6 hgr6 hat6 hlt6; have hx := (Ext.refl w).alloc (.cells #[I kd, I nm, .slice aA an ac] 95); have kb : Box w6 b 74 (V.cells i0 pv) := (HS.out.box.ext hx).kept hgr6 (by rw [← HEV.out]; exact HS.out.box.apart HS.out.gates.row (by decide)); have f6 := kb.free; have m6 : w6.cell? ⟨b, 1, none⟩ = some V.gv := kb.cell 1; have HO6 := Lib.hid hown6; have HG6 := Lib.hid hgr6; have HAT := Lib.hid hat6; have HLT := Lib.hid hlt6; clear hown6 hgr6 hat6 hlt6 hx kb m1)
  go_ret
  have hx := (Ext.refl w).alloc (.cells #[I kd, I nm, .slice aA an ac] 95)
  have hgr : w.grownBy w6 V.gv.ownBlock := by
    have hg := HG6.out
    rw [HEV.out]
    exact ⟨hg.os, hg.tape, hg.output, Nat.le_trans hx.size hg.size, fun k hk hne => (hg.block k (Nat.lt_of_lt_of_le hk hx.size) hne).trans (hx.block k hk)⟩
  have hS' := HS.out.pushG (g := ⟨kd, nm, args⟩) HA.out (by rw [HEAV.out, ← HGN.out]; exact HO6.out) hgr
  have hnew : ∀ g, (Value.slice (some ⟨g6, 0, none⟩) (gn + 1) cap6).ownBlock = some g → V.gv.ownBlock = some g ∨ w.heap.size ≤ g := fun g e => by
    simp only [Value.ownBlock, Option.some.injEq] at e
    subst e
    rcases HAT.out with e | e
    · left; rw [HEV.out]; exact e
    · right; rw [e]; simp
  have hfoot := HS.out.foot
  have hrel := HS.out.rel_push (v := V.gv) (i := 1) hS' hgr (fun g e => (hfoot g).2 (.inr (.inl e))) hnew (fun k e => by
    rcases (hS'.foot k).1 e with e | e | e
    · exact .inr ((hfoot k).2 (.inl e))
    · exact .inl e
    · exact .inr ((hfoot k).2 (.inr (.inr e))))
  refine ⟨ret_int (by rw [HGN.out]), ?_, hrel, .slice (some ⟨g6, 0, none⟩) (gn + 1) cap6, ?_⟩
  · exact (Below.grown (w := w) (Below.refl base w) hgr HS1.out (fun k e => (HS.out.gates.row.lt k e).1)).setCell (p := ⟨b, 1, none⟩) HS.out.ge.1 _
  · have hS2 := hS'
    rw [HEAV.out] at hS2
    exact hS2
/-- What store leaves. -/
structure StoreP (w w' : World) (base b : Nat) (i0 : Int) (pv : Value) (S : SmithM) (V : SmithV) (bg : Bool) (e : Ending) : Prop where
  ret : e = .returned (Pr (I S.gs.length) (I S.rs.length))
  below : Below base w w'
  rel : RelF b w w'
  ex : ∃ rv' gv', SmithW w' base b i0 pv ((S.pushR ⟨bg, 0⟩ rv').pushG ⟨3, S.rs.length, []⟩) { V with rv := rv', gv := gv', gas := V.gas ++ [.slice none 0 0] }
set_option maxRecDepth 100000 in
set_option maxHeartbeats 4000000 in
theorem store_any (h : SmithW w base b i0 pv S V) (bg : Bool) (hl : S.gs.length ≤ 1000) (hl2 : S.rs.length ≤ 1000) :
    Calls Try.prog 38 #[.pointer (some ⟨b, 0, none⟩), Bv bg] w fun e w' => StoreP w w' base b i0 pv S V bg e := by
  obtain ⟨hs1, hs2⟩ := h.size
  obtain ⟨rn, hrn⟩ : ∃ rn, rn = S.rs.length := ⟨_, rfl⟩
  obtain ⟨rA, rc, erv, -, -, -⟩ := own_slice h.regs
  rw [← hrn] at erv
  have m1 := (h.box.cell 2).trans rfl
  simp only [List.getElem?_cons_zero, List.getElem?_cons_succ] at m1
  rw [erv] at m1
  rw [← hrn] at hl2
  have HS := Lib.hid h; have HRN := Lib.hid hrn; have HS1 := Lib.hid hs1; have HEV := Lib.hid erv; have HL := Lib.hid hl
  obtain ⟨inf, hti, htz, hts1, hts2⟩ := info_parts tab_store
  have HTI := Lib.hid hti; have HTZ := Lib.hid htz; have HT1 := Lib.hid hts1; have HT2 := Lib.hid hts2
  clear h hrn hs1 erv hti htz hts1 hts2 hl
  go_enter Try.func38, Try.ntmps38
  go_upto_region 2 with (at_builtin; refine wpList_append_lies _ rfl (.tmp 12) (.tmp 15) 37 rfl base 79 inf _ 2 16 Try.underlying37 HTI.out HTZ.out HT1.out HT2.out rfl (by omega) (.slice rA rn rc) rn (storeCs S.rs) rfl (by have := (HS.out.ext ((Ext.refl w).alloc (.cells #[Bv bg, I 0] 79))).regs; rw [← HRN.out, HEV.out] at this; exact this) ⟨w.heap.size, 0, none⟩ 1 1 [Bv bg, I 0] rfl rfl (fun j u hu => by rw [add_zero, World.cell?_alloc_new]; simpa using hu) (by simp [Value.oneCell']) (by omega) (by unfold maxLen; omega) (by omega) (Nat.le_trans HS1.out (by simp)) _ rfl ?_; intro g6 cap6 w6 hown6 hgr6 hat6 hlt6; have hx := (Ext.refl w).alloc (.cells #[Bv bg, I 0] 79); have kb : Box w6 b 74 (V.cells i0 pv) := (HS.out.box.ext hx).kept hgr6 (by rw [← HEV.out]; exact HS.out.box.apart HS.out.regs (by decide)); have f6 := kb.free; have m6 : w6.cell? ⟨b, 2, none⟩ = some V.rv := kb.cell 2; have HO6 := Lib.hid hown6; have HG6 := Lib.hid hgr6; have HAT := Lib.hid hat6; have HLT := Lib.hid hlt6; clear hown6 hgr6 hat6 hlt6 hx kb m1)
  have hx := (Ext.refl w).alloc (.cells #[Bv bg, I 0] 79)
  have hgr : w.grownBy w6 V.rv.ownBlock := by
    have hg := HG6.out
    rw [HEV.out]
    exact ⟨hg.os, hg.tape, hg.output, Nat.le_trans hx.size hg.size, fun k hk hne => (hg.block k (Nat.lt_of_lt_of_le hk hx.size) hne).trans (hx.block k hk)⟩
  have hS' := HS.out.pushR (r := ⟨bg, 0⟩) (by rw [← HRN.out]; exact HO6.out) hgr
  have hnew : ∀ g, (Value.slice (some ⟨g6, 0, none⟩) (rn + 1) cap6).ownBlock = some g → V.rv.ownBlock = some g ∨ w.heap.size ≤ g := fun g e => by
    simp only [Value.ownBlock, Option.some.injEq] at e
    subst e
    rcases HAT.out with e | e
    · left; rw [HEV.out]; exact e
    · right; rw [e]; simp
  have hfoot := HS.out.foot
  have hrel := HS.out.rel_push (v := V.rv) (i := 2) hS' hgr (fun g e => (hfoot g).2 (.inr (.inr (.inl e)))) hnew (fun k e => by
    rcases (hS'.foot k).1 e with e | e | e | e
    · exact .inr ((hfoot k).2 (.inl e))
    · exact .inr ((hfoot k).2 (.inr (.inl e)))
    · exact .inl e
    · exact .inr ((hfoot k).2 (.inr (.inr (.inr e)))))
  have hbel := (Below.grown (w := w) (Below.refl base w) hgr HS1.out (fun k e => (HS.out.regs.lt k e).1)).setCell (p := ⟨b, 2, none⟩) HS.out.ge.1 (.slice (some ⟨g6, 0, none⟩) (rn + 1) cap6)
  obtain ⟨w7, hw7⟩ : ∃ w7, w7 = w6.setCell ⟨b, 2, none⟩ (.slice (some ⟨g6, 0, none⟩) (rn + 1) cap6) := ⟨_, rfl⟩
  rw [← hw7] at hS' hrel hbel
  rw [← hw7]
  have m7 : w7.cell? ⟨b, 2, none⟩ = some (.slice (some ⟨g6, 0, none⟩) (rn + 1) cap6) := hS'.box.cell 2
  have HS7 := Lib.hid hS'; have HREL := Lib.hid hrel; have HBEL := Lib.hid hbel
  clear hx hgr hnew hfoot hS' hrel hbel hw7 m6 f6
  go_wp2_with fail
  refine (gate_any HS7.out 3 rn (.slice none 0 0) [] (World.ownsRow_nil _ _ _ _) HL.out).mono ?_
  rintro e w8 ⟨rfl, hb8, hr8, gv8, hS8⟩
  have HR := Lib.hid hr8; have HB := Lib.hid hb8; have H8 := Lib.hid hS8
  clear hr8 hb8 hS8 m7
  go_wp2
  exact bodyPost_ret (v := Pr (I S.gs.length) (I rn)) (by simp [results, Try.results38, go_sem]) rfl ⟨by rw [HRN.out], HBEL.out.trans HB.out, HREL.out.trans HR.out, .slice (some ⟨g6, 0, none⟩) (rn + 1) cap6, gv8, by have := H8.out; rw [HRN.out] at this; rw [HRN.out]; exact this⟩
end
end Go.Proofs.Ytlafiddfplhafaa
/- all, any, not, never: a gate more, told by the smith's state alone; what stands in a method's own memory. -/
namespace Go.Proofs.Ytlafiddfplhafaa
set_option linter.unusedVariables false
set_option linter.unusedSimpArgs false
open Go.RowKit
/-- What a method leaves. -/
structure MadeP (w w' : World) (base b : Nat) (i0 : Int) (pv : Value) (S' : SmithM) : Prop where
  below : Below base w w'
  rel : RelF b w w'
  sm : SmithP w' base b i0 pv S'
theorem MadeP.trans {w w' w'' : World} {base b : Nat} {i0 : Int} {pv : Value} {S S' : SmithM} (h : MadeP w w' base b i0 pv S) (k : MadeP w' w'' base b i0 pv S') : MadeP w w'' base b i0 pv S' := ⟨h.below.trans k.below, h.rel.trans k.rel, k.sm⟩
/-- A row of numbers that lies apart from all that the smith writes. -/
def ArgP (w : World) (base b : Nat) (av : Value) (args : List Int) : Prop := w.ownsRow base 3 1 av args.length (args.map I) ∧ ∀ g, av.ownBlock = some g → ¬ FootW b w g
theorem ArgP.nil (w : World) (base b : Nat) : ArgP w base b (.slice none 0 0) [] := ⟨World.ownsRow_nil _ _ _ _, fun g h => by simp [Value.ownBlock] at h⟩
theorem ArgP.rel {w w' : World} {base b : Nat} {av : Value} {args : List Int} (h : ArgP w base b av args) (hr : RelF b w w') : ArgP w' base b av args := hr.own h.1 h.2
section
variable {w w' : World} {base b : Nat} {i0 : Int} {pv : Value} {S : SmithM}
theorem SmithP.size (h : SmithP w base b i0 pv S) : base ≤ w.heap.size ∧ b < w.heap.size := let ⟨_, h1, _⟩ := h; h1.size
/-- A literal of numbers, laid now. -/
theorem ArgP.new (h : SmithP w base b i0 pv S) (args : List Int) (k : Nat) (hk : k = w.heap.size) (hm : args.length ≤ 1000) : ArgP (w.alloc (.cells (args.map I).toArray 3)) base b (.slice (some ⟨k, 0, none⟩) args.length args.length) args := by
  subst hk
  refine ⟨⟨by simp, .inr ⟨w.heap.size, args.length, (args.map I).toArray, rfl, h.size.1, heap_alloc_new w _, Nat.le_refl _, by unfold maxLen; omega, by simp, by rw [Nat.mul_one]; exact List.take_of_length_le (by simp)⟩⟩, fun g hg => ?_⟩
  simp only [Value.ownBlock, Option.some.injEq] at hg
  subst hg
  exact h.fresh ((Ext.refl w).alloc _) (Nat.le_refl _)
theorem sgate_any (h : SmithP w base b i0 pv S) (kd nm : Int) (av : Value) (args : List Int) (ha : ArgP w base b av args) (hl : S.gs.length ≤ 1000) :
    Calls Try.prog 37 #[.pointer (some ⟨b, 0, none⟩), I kd, I nm, av] w fun e w' => e = .returned (I S.gs.length) ∧ MadeP w w' base b i0 pv (S.pushG ⟨kd, nm, args⟩) := by
  obtain ⟨V, hS, hsep, hgh⟩ := h
  refine (gate_any hS kd nm av args ha.1 hl).mono fun e w' ⟨h1, h2, h3, gv', h4⟩ => ⟨h1, h2, h3, _, h4, ⟨hsep.1, fun k e he g hg => ?_⟩, hgh⟩
  obtain ⟨k1, k2, k3, k4, k5⟩ := hsep.2 k e he g hg
  refine ⟨fun v hv => ?_, k2, k3, k4, k5⟩
  rcases List.mem_append.1 hv with q | q
  · exact k1 v q
  · simp only [List.mem_cons, List.not_mem_nil, or_false] at q
    subst q
    intro e2
    exact ha.2 g e2 ((hS.foot g).2 (.inr (.inr (.inr (.inr (.inr (.inr (.inr ⟨e, List.mem_of_getElem? he, hg⟩))))))))
set_option maxHeartbeats 1000000 in
theorem sall_any (h : SmithP w base b i0 pv S) (av : Value) (args : List Int) (ha : ArgP w base b av args) (hl : S.gs.length ≤ 1000) :
    Calls Try.prog 76 #[.pointer (some ⟨b, 0, none⟩), av] w fun e w' => e = .returned (I S.gs.length) ∧ MadeP w w' base b i0 pv (S.pushG (gAll args)) := by
  have C := Lib.hid (sgate_any h 4 0 av args ha hl)
  clear h ha hl
  go_enter Try.func76, Try.ntmps76
  go_wp2_with fail
  refine C.out.mono ?_; rintro e w1 ⟨rfl, hm⟩
  have HM := Lib.hid hm; clear hm
  go_wp2
  go_ret
  exact ⟨rfl, HM.out⟩
set_option maxHeartbeats 1000000 in
theorem sany_any (h : SmithP w base b i0 pv S) (av : Value) (args : List Int) (ha : ArgP w base b av args) (hl : S.gs.length ≤ 1000) :
    Calls Try.prog 40 #[.pointer (some ⟨b, 0, none⟩), av] w fun e w' => e = .returned (I S.gs.length) ∧ MadeP w w' base b i0 pv (S.pushG (gAny args)) := by
  have C := Lib.hid (sgate_any h 5 0 av args ha hl)
  clear h ha hl
  go_enter Try.func40, Try.ntmps40
  go_wp2_with fail
  refine C.out.mono ?_; rintro e w1 ⟨rfl, hm⟩
  have HM := Lib.hid hm; clear hm
  go_wp2
  go_ret
  exact ⟨rfl, HM.out⟩
set_option maxHeartbeats 1000000 in
theorem snot_any (h : SmithP w base b i0 pv S) (a : Int) (hl : S.gs.length ≤ 1000) :
    Calls Try.prog 77 #[.pointer (some ⟨b, 0, none⟩), I a] w fun e w' => e = .returned (I S.gs.length) ∧ MadeP w w' base b i0 pv (S.pushG (gNot a)) := by
  have hx := (Ext.refl w).alloc (.cells #[I a] 3)
  have C := Lib.hid (sgate_any (h.ext hx) 6 0 (.slice (some ⟨w.heap.size, 0, none⟩) 1 1) [a] (ArgP.new h [a] _ rfl (by simp)) hl)
  have HR := Lib.hid (h.rel_ext hx)
  have HB := Lib.hid (Below.mono hx h.size.1)
  clear h hl hx
  go_enter Try.func77, Try.ntmps77
  go_wp2_with fail
  refine C.out.mono ?_; rintro e w1 ⟨rfl, hm⟩
  have HM := Lib.hid hm; clear hm
  go_wp2
  go_ret
  exact ⟨rfl, HB.out.trans HM.out.below, HR.out.trans HM.out.rel, HM.out.sm⟩
set_option maxHeartbeats 1000000 in
theorem snever_any (h : SmithP w base b i0 pv S) (m : Nat) (hc : w.cell? ⟨m, 0, none⟩ = some (.pointer (some ⟨b, 0, none⟩))) (hl : S.gs.length ≤ 1000) :
    Calls Try.prog 75 #[.pointer (some ⟨m, 0, none⟩)] w fun e w' => e = .returned (I S.gs.length) ∧ MadeP w w' base b i0 pv (S.pushG gNever) := by
  have C := Lib.hid (sgate_any h 0 0 (.slice none 0 0) [] (ArgP.nil _ _ _) hl)
  clear h hl
  go_enter Try.func75, Try.ntmps75
  go_wp2_with fail
  refine C.out.mono ?_; rintro e w1 ⟨rfl, hm⟩
  have HM := Lib.hid hm; clear hm
  go_wp2
  go_ret
  exact ⟨rfl, HM.out⟩
theorem sstore_any (h : SmithP w base b i0 pv S) (bg : Bool) (hl : S.gs.length ≤ 1000) (hl2 : S.rs.length ≤ 1000) :
    Calls Try.prog 38 #[.pointer (some ⟨b, 0, none⟩), Bv bg] w fun e w' => ∃ rv', e = .returned (Pr (I S.gs.length) (I S.rs.length)) ∧ MadeP w w' base b i0 pv ((S.pushR ⟨bg, 0⟩ rv').pushG (gReg S.rs.length)) := by
  obtain ⟨V, hS, hsep, hgh⟩ := h
  refine (store_any hS bg hl hl2).mono fun e w' ⟨h1, h2, h3, rv', gv', h4⟩ => ⟨rv', h1, h2, h3, _, h4, ⟨hsep.1, fun k e he g hg => ?_⟩, rfl, hgh.2⟩
  obtain ⟨k1, k2, k3, k4, k5⟩ := hsep.2 k e he g hg
  refine ⟨fun v hv => ?_, k2, k3, k4, k5⟩
  rcases List.mem_append.1 hv with q | q
  · exact k1 v q
  · simp only [List.mem_cons, List.not_mem_nil, or_false] at q
    subst q
    simp [Value.ownBlock]
end
/-- What stands in a method's own memory. -/
def Locals (b : Nat) (L : List (Nat × TypeId × List Value)) (w : World) : Prop := ∀ x ∈ L, Box w x.1 x.2.1 x.2.2 ∧ ¬ FootW b w x.1
theorem Locals.rel {b : Nat} {L : List (Nat × TypeId × List Value)} {w w' : World} (h : Locals b L w) (hr : RelF b w w') : Locals b L w' := fun x hx => hr.box (h x hx).1 (h x hx).2
structure NodeI (wE : World) (base b : Nat) (i0 : Int) (pv : Value) (L : List (Nat × TypeId × List Value)) (S : SmithM) (w : World) : Prop where
  sm : SmithP w base b i0 pv S
  lo : Locals b L w
  be : Below base wE w
  re : RelF b wE w
section
variable {wE w w' : World} {base b : Nat} {i0 : Int} {pv : Value} {L : List (Nat × TypeId × List Value)} {S S' : SmithM}
theorem NodeI.ext (h : NodeI wE base b i0 pv L S w) (hx : Ext w w') : NodeI wE base b i0 pv L S w' ∧ RelF b w w' := by
  have hr := h.sm.rel_ext hx
  exact ⟨⟨h.sm.ext hx, h.lo.rel hr, h.be.trans (Below.mono hx h.sm.size.1), h.re.trans hr⟩, hr⟩
theorem NodeI.step (h : NodeI wE base b i0 pv L S w) (k : MadeP w w' base b i0 pv S') : NodeI wE base b i0 pv L S' w' := ⟨k.sm, h.lo.rel k.rel, h.be.trans k.below, h.re.trans k.rel⟩
theorem NodeI.made (h : NodeI wE base b i0 pv L S w) : MadeP wE w base b i0 pv S := ⟨h.be, h.re, h.sm⟩
theorem NodeI.cell (h : NodeI wE base b i0 pv L S w) {g : Nat} {T : TypeId} {cs : List Value} (hm : (g, T, cs) ∈ L) (k : Nat) : w.cell? ⟨g, k, none⟩ = cs[k]? := (h.lo _ hm).1.cell k
/-- One thing more in the method's own memory. -/
theorem NodeI.push (h : NodeI wE base b i0 pv L S w) (T : TypeId) (cs : List Value) (k : Nat) (hk : k = w.heap.size) : NodeI wE base b i0 pv ((k, T, cs) :: L) S (w.alloc (.cells cs.toArray T)) := by
  subst hk
  have hx := (Ext.refl w).alloc (.cells cs.toArray T)
  obtain ⟨h1, h2⟩ := h.ext hx
  refine ⟨h1.sm, fun x hx' => ?_, h1.be, h1.re⟩
  rcases List.mem_cons.1 hx' with e | e
  · subst e; exact ⟨Box.new w cs T, h.sm.fresh hx (Nat.le_refl _)⟩
  · exact h1.lo x e
end
end Go.Proofs.Ytlafiddfplhafaa
/- append onto a new empty row; a gate of an own row set. -/
namespace Go.Proofs.Ytlafiddfplhafaa
set_option linter.unusedVariables false
set_option linter.unusedSimpArgs false
open Go.RowKit
end Go.Proofs.Ytlafiddfplhafaa
/- A map of integers to integers that the call itself makes: its entries as a function. -/
namespace Go.Proofs.Ytlafiddfplhafaa
set_option linter.unusedVariables false
set_option linter.unusedSimpArgs false
open Go.RowKit Go.Maps
/-- Block b is a map of at most n entries; at k stands f k (0 where there is none). -/
def MapI (w : World) (b n : Nat) (f : Int → Int) : Prop :=
  ∃ D : DataW Unit, w.ownsMap Try.prog 3 (plainElem Try.prog 3) b n D ∧ IsMap D ∧ ∀ k, D.atKey (.int .i64 k) (.lit (.int .i64 0)) = .lit (.int .i64 (f k))
theorem MapI.made (w : World) : MapI (w.alloc (.map #[] 0)) w.heap.size 0 (fun _ => 0) := ⟨.map [], World.ownsMap_made _ _ _ _, isMap_empty, fun _ => rfl⟩
section
variable {w w' : World} {b n : Nat} {f : Int → Int}
theorem MapI.lt (h : MapI w b n f) : b < w.heap.size := by obtain ⟨D, h1, -⟩ := h; exact h1.lt
theorem MapI.kept {row : Option Nat} (h : MapI w b n f) (hg : w.grownBy w' row) (hne : some b ≠ row) : MapI w' b n f := by
  obtain ⟨D, h1, h2, h3⟩ := h; exact ⟨D, h1.kept hg hne, h2, h3⟩
theorem MapI.ext (h : MapI w b n f) (hx : Ext w w') : MapI w' b n f := by
  obtain ⟨D, ⟨es, clock, hb, F, hs, hD⟩, h2, h3⟩ := h
  exact ⟨D, ⟨es, clock, (hx.block b (Array.getElem?_eq_some_iff.1 hb).1).trans hb, F, hs, hD⟩, h2, h3⟩
theorem MapI.set (h : MapI w b n f) {g : Nat} (hg : g ≠ b) (j : Nat) (v : Value) : MapI (w.setCell ⟨g, j, none⟩ v) b n f := h.kept (row := some g) ⟨rfl, rfl, rfl, by simp, fun k _ hk => heap_setCell_other w ⟨g, j, none⟩ k v (fun e => hk (by simp [e]))⟩ (by simpa using fun e => hg e.symm)
end
end Go.Proofs.Ytlafiddfplhafaa
