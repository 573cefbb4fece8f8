/- Levels, in plain Lean: the order by counts of what lacks, and the order by flags, are the same; what is told along an order is what is settled. No program in sight. -/
import Derived.Test.YtjagbnaacfhokaaNeedPlain
import Derived.Test.YtjagbnaacfhokaaEvalPlain
namespace Go.Proofs.Ytjagbnaacfhokaa
set_option linter.unusedVariables false
set_option linter.unusedSimpArgs false

/-- All of args are done. -/
def argsDone (o : List Bool) (g : GateM) : Bool := g.args.all (onI o)
/-- The first gate from k on that is ready. -/
def readyFrom : List GateM → Nat → List Bool → Int
  | [], _, _ => -1
  | g :: l, k, o => if !onI o k && argsDone o g then (k : Int) else readyFrom l (k + 1) o
def readyM (gs : List GateM) (o : List Bool) : Int := readyFrom gs 0 o
def orderFrom (gs : List GateM) : Nat → List Bool → List Int → Option (List Int)
  | 0, _, out => some out
  | n + 1, o, out => if readyM gs o < 0 then none else orderFrom gs n (o.set (readyM gs o).toNat true) (out ++ [readyM gs o])
def orderM (gs : List GateM) : Option (List Int) := orderFrom gs gs.length (List.replicate gs.length false) []

/-! counts of what lacks -/
def lacksG (o : List Bool) (g : GateM) : Int := (g.args.countP (fun a => !onI o a) : Nat)
def lackFrom : List GateM → Nat → List Bool → List Int
  | [], _, _ => []
  | g :: l, k, o => (if onI o k then -1 else lacksG o g) :: lackFrom l (k + 1) o
def lackM (gs : List GateM) (o : List Bool) : List Int := lackFrom gs 0 o
def decAll (L : List Int) (l : List Int) : List Int := l.foldl (fun L k => L.modify k.toNat (· - 1)) L
def zeroAt : List Int → Int → Int
  | [], _ => -1
  | x :: l, k => if x = 0 then k else zeroAt l (k + 1)

theorem lackFrom_len (l : List GateM) : ∀ k o, (lackFrom l k o).length = l.length := by
  induction l with
  | nil => intro k o; rfl
  | cons g l ih => intro k o; simp [lackFrom, ih]
theorem lackFrom_at (l : List GateM) (o : List Bool) : ∀ (k j : Nat) (g : GateM), l[j]? = some g → (lackFrom l k o)[j]? = some (if onI o ((k + j : Nat) : Int) then -1 else lacksG o g) := by
  induction l with
  | nil => intro k j g h; simp at h
  | cons x l ih =>
    intro k j g h
    cases j with
    | zero => simp at h; subst h; simp [lackFrom]
    | succ j => simp only [lackFrom, List.getElem?_cons_succ]; rw [ih (k + 1) j g (by simpa using h), show k + 1 + j = k + (j + 1) from by omega]
theorem lackM_at {gs : List GateM} {o : List Bool} {j : Nat} {g : GateM} (h : gs[j]? = some g) : (lackM gs o)[j]? = some (if onI o j then -1 else lacksG o g) := by
  have := lackFrom_at gs o 0 j g h; simpa [lackM] using this
theorem lacks_zero (o : List Bool) (g : GateM) : (lacksG o g = 0) = (argsDone o g = true) := by
  unfold lacksG argsDone
  rw [eq_iff_iff]
  constructor
  · intro h
    have h0 : g.args.countP (fun a => !onI o a) = 0 := by omega
    rw [List.countP_eq_zero] at h0
    rw [List.all_eq_true]
    exact fun a ha => by have := h0 a ha; simpa using this
  · intro h
    rw [List.all_eq_true] at h
    have h0 : g.args.countP (fun a => !onI o a) = 0 := by
      rw [List.countP_eq_zero]; exact fun a ha => by simp [h a ha]
    omega
theorem zeroAt_lack (l : List GateM) (o : List Bool) : ∀ k : Nat, zeroAt (lackFrom l k o) k = readyFrom l k o := by
  induction l with
  | nil => intro k; rfl
  | cons g l ih =>
    intro k
    have h1 := ih (k + 1)
    simp only [lackFrom, zeroAt, readyFrom]
    rw [show ((k : Int) + 1) = ((k + 1 : Nat) : Int) from by omega, h1]
    cases e : onI o k with
    | true => simp
    | false =>
      simp only [Bool.false_eq_true, if_false, Bool.not_false, Bool.true_and]
      have := lacks_zero o g
      by_cases h : argsDone o g = true
      · rw [if_pos (by rw [this]; exact h), if_pos h]
      · rw [if_neg (by rw [this]; exact h), if_neg h]
theorem zeroAt_lackM (gs : List GateM) (o : List Bool) : zeroAt (lackM gs o) 0 = readyM gs o := zeroAt_lack gs o 0

theorem readyFrom_spec (gs : List GateM) (o : List Bool) (l : List GateM) : ∀ k : Nat, gs.drop k = l → readyFrom l k o = -1 ∨
    ∃ (j : Nat) (g : GateM), readyFrom l k o = (j : Int) ∧ k ≤ j ∧ gs[j]? = some g ∧ onI o j = false ∧ argsDone o g = true := by
  induction l with
  | nil => intro k _; exact .inl rfl
  | cons g l ih =>
    intro k hd
    have hk : gs[k]? = some g := by
      have : (gs.drop k)[0]? = some g := by rw [hd]; rfl
      simpa using this
    have hd' : gs.drop (k + 1) = l := by rw [← List.drop_drop, hd]; rfl
    simp only [readyFrom]
    by_cases h : (!onI o k && argsDone o g) = true
    · rw [if_pos h]
      simp only [Bool.and_eq_true, Bool.not_eq_true'] at h
      exact .inr ⟨k, g, rfl, Nat.le_refl _, hk, h.1, h.2⟩
    · rw [if_neg h]
      rcases ih (k + 1) hd' with e | ⟨j, x, h1, h2, h3⟩
      · exact .inl e
      · exact .inr ⟨j, x, h1, by omega, h3⟩
theorem readyM_spec (gs : List GateM) (o : List Bool) : readyM gs o = -1 ∨ ∃ (j : Nat) (g : GateM), readyM gs o = (j : Int) ∧ gs[j]? = some g ∧ onI o j = false ∧ argsDone o g = true := by
  rcases readyFrom_spec gs o gs 0 rfl with e | ⟨j, g, h1, _, h3⟩
  · exact .inl e
  · exact .inr ⟨j, g, h1, h3⟩
/-- If a gate is ready, the first that is ready is one. -/
theorem readyFrom_some (gs : List GateM) (o : List Bool) (l : List GateM) : ∀ (k j : Nat) (g : GateM), l[j]? = some g → onI o ((k + j : Nat) : Int) = false → argsDone o g = true → 0 ≤ readyFrom l k o := by
  induction l with
  | nil => intro k j g h; simp at h
  | cons x l ih =>
    intro k j g h h1 h2
    simp only [readyFrom]
    by_cases hx : (!onI o k && argsDone o x) = true
    · rw [if_pos hx]; omega
    · rw [if_neg hx]
      cases j with
      | zero => simp at h h1; subst h; simp [h1, h2] at hx
      | succ j => exact ih (k + 1) j g (by simpa using h) (by rw [show k + 1 + j = k + (j + 1) from by omega]; exact h1) h2

theorem count_addUses (k j b : Int) (hb : 0 ≤ b) (args : List Int) : ∀ u : List (List Int), (∀ a ∈ args, 0 ≤ a ∧ a < u.length) → (useI (addUses u k args) b).count j = (useI u b).count j + if j = k then args.count b else 0 := by
  induction args with
  | nil => intro u _; simp [addUses]
  | cons a l ih =>
    intro u h
    have ha := h a (by simp)
    have h2 := ih (u.modify a.toNat (· ++ [k])) (fun x hx => by simpa using h x (by simp [hx]))
    simp only [addUses, List.foldl_cons] at h2 ⊢
    rw [h2, useI_modify u a b k ha.1 hb]
    by_cases e : a = b
    · subst e; rw [if_pos ⟨rfl, ha.2⟩, List.count_append, List.count_cons, List.count_cons]
      by_cases hj : j = k
      · subst hj; simp; omega
      · have hj' : ¬ k = j := fun x => hj x.symm
        simp [hj, hj']
    · rw [if_neg (fun x => e x.1), List.count_cons]; simp [e]
theorem count_usersFrom {gs : List GateM} (j b : Int) (hb : 0 ≤ b) (ok : okArgs gs) (l : List GateM) : ∀ (k : Nat) (u : List (List Int)), gs.drop k = l → u.length = gs.length →
    (useI (usersFrom l k u) b).count j = (useI u b).count j + if (k : Int) ≤ j then ((l[(j - k).toNat]?.map (·.args)).getD []).count b else 0 := by
  induction l with
  | nil => intro k u _ _; simp [usersFrom]
  | cons g l ih =>
    intro k u hd hu
    have hk : gs[k]? = some g := by
      have : (gs.drop k)[0]? = some g := by rw [hd]; rfl
      simpa using this
    have hd' : gs.drop (k + 1) = l := by rw [← List.drop_drop, hd]; rfl
    simp only [usersFrom]
    rw [ih (k + 1) _ hd' (by rw [addUses_len, hu]), count_addUses k j b hb g.args u (by rw [hu]; exact ok g (List.mem_of_getElem? hk))]
    by_cases e : j = k
    · subst e; rw [if_pos rfl, if_neg (by omega), if_pos (by omega)]; simp
    · rw [if_neg e]
      by_cases h : (k : Int) ≤ j
      · rw [if_pos (by omega), if_pos h, show (j - k).toNat = (j - ((k + 1 : Nat) : Int)).toNat + 1 from by omega]; simp
      · rw [if_neg (by omega), if_neg h]
theorem count_users {gs : List GateM} (ok : okArgs gs) {b : Int} (hb : 0 ≤ b) (j : Nat) : (useI (usersM gs) b).count (j : Int) = (argsI gs j).count b := by
  unfold usersM
  rw [count_usersFrom j b hb ok gs 0 _ rfl (by simp), if_pos (by omega)]
  have : useI (List.replicate gs.length ([] : List Int)) b = [] := by unfold useI; rw [List.getElem?_replicate]; split <;> rfl
  simp [this, argsI]

theorem decAll_len (l : List Int) : ∀ L, (decAll L l).length = L.length := by
  induction l with
  | nil => intro L; rfl
  | cons a l ih => intro L; simp only [decAll, List.foldl_cons] at *; rw [ih]; simp
theorem decAll_at (l : List Int) (h0 : ∀ a ∈ l, 0 ≤ a) : ∀ (L : List Int) (j : Nat) (x : Int), L[j]? = some x → (decAll L l)[j]? = some (x - (l.count (j : Int) : Nat)) := by
  induction l with
  | nil => intro L j x h; simp [decAll, h]
  | cons a l ih =>
    intro L j x h
    have ha := h0 a (by simp)
    have ih' := ih (fun y hy => h0 y (by simp [hy]))
    simp only [decAll, List.foldl_cons] at *
    by_cases e : a = j
    · subst e
      rw [ih' (L.modify (j : Int).toNat (· - 1)) j (x - 1) (by simp [h])]
      simp; omega
    · have : ¬ a.toNat = j := by omega
      rw [ih' (L.modify a.toNat (· - 1)) j x (by simp [h, this])]
      rw [List.count_cons]; simp [e]
theorem countP_set {o : List Bool} {k : Int} (h0 : 0 ≤ k) (h1 : k < o.length) (hk : onI o k = false) (l : List Int) (hl : ∀ a ∈ l, 0 ≤ a) :
    l.countP (fun a => !onI o a) = l.countP (fun a => !onI (o.set k.toNat true) a) + l.count k := by
  induction l with
  | nil => rfl
  | cons a l ih =>
    have ih := ih (fun x hx => hl x (by simp [hx]))
    have hs := onI_set o k a h0 h1 (hl a (by simp))
    rw [List.countP_cons, List.countP_cons, List.count_cons, hs, ih]
    by_cases e : a = k
    · subst e; simp [hk]; omega
    · simp [e]; omega
/-- One more is done: the counts that the loop leaves. -/
theorem lack_step {gs : List GateM} {o : List Bool} {k : Nat} {g : GateM} (ok : okArgs gs) (ho : o.length = gs.length) (hg : gs[k]? = some g) (hk : onI o k = false) (hd : argsDone o g = true)
    (hc : ∀ (j : Nat) (x : GateM), gs[j]? = some x → onI o j = true → argsDone o x = true) :
    decAll ((lackM gs o).set k (-1)) (useI (usersM gs) k) = lackM gs (o.set k true) := by
  have hkl : k < gs.length := (List.getElem?_eq_some_iff.1 hg).1
  have hu : ∀ a ∈ useI (usersM gs) (k : Int), 0 ≤ a := fun a ha => by
    obtain ⟨i, _, _, rfl, _⟩ := (mem_users ok (by omega)).1 ha; omega
  refine List.ext_getElem? fun j => ?_
  rcases Nat.lt_or_ge j gs.length with hj | hj
  · have hgj := List.getElem?_eq_getElem hj
    generalize gs[j] = x at hgj
    have hlj := lackM_at (o := o) hgj
    have hon := onI_set o k j (by omega) (by omega) (by omega)
    rw [Int.toNat_natCast] at hon
    rw [lackM_at hgj, hon]
    have hcnt : (useI (usersM gs) k).count (j : Int) = x.args.count (k : Int) := by rw [count_users ok (by omega)]; simp [argsI, hgj]
    by_cases e : j = k
    · subst e
      rw [hg] at hgj; injection hgj with hgj; subst hgj
      rw [decAll_at _ hu _ j (-1) (by rw [List.getElem?_set]; simp [lackM, lackFrom_len, hkl]), hcnt]
      have : g.args.count (j : Int) = 0 := by
        rw [List.count_eq_zero]; intro hm
        unfold argsDone at hd; rw [List.all_eq_true] at hd
        rw [hd _ hm] at hk; cases hk
      rw [this]; simp
    · have e' : ¬ (j : Int) = (k : Int) := by omega
      rw [decAll_at _ hu _ j _ (by rw [List.getElem?_set, if_neg (fun x => e x.symm), hlj]), hcnt]
      simp only [e', decide_false, Bool.or_false]
      cases hoj : onI o j with
      | true =>
        have := hc j x hgj hoj
        have h0 : x.args.count (k : Int) = 0 := by
          rw [List.count_eq_zero]; intro hm
          unfold argsDone at this; rw [List.all_eq_true] at this
          rw [this _ hm] at hk; cases hk
        simp [h0]
      | false =>
        simp only [Bool.false_eq_true, if_false]
        have := countP_set (o := o) (k := (k : Int)) (by omega) (by omega) hk x.args (fun a ha => (ok x (List.mem_of_getElem? hgj) a ha).1)
        rw [Int.toNat_natCast] at this
        unfold lacksG; congr 1; omega
  · rw [List.getElem?_eq_none (by rw [decAll_len]; simp [lackM, lackFrom_len]; omega), List.getElem?_eq_none (by simp [lackM, lackFrom_len]; omega)]

/-! along an order -/
/-- What is done is done with its args. -/
def ClosedD (gs : List GateM) (o : List Bool) : Prop := ∀ (j : Nat) (x : GateM), gs[j]? = some x → onI o j = true → argsDone o x = true
/-- An order of what is left. -/
def OrdM (gs : List GateM) : List Bool → List Int → Prop
  | _, [] => True
  | o, k :: l => 0 ≤ k ∧ (∃ g, gs[k.toNat]? = some g ∧ onI o k = false ∧ argsDone o g = true) ∧ OrdM gs (o.set k.toNat true) l
theorem argsDone_set {o : List Bool} {k : Nat} {x : GateM} (h : argsDone o x = true) : argsDone (o.set k true) x = true := by
  unfold argsDone at *; rw [List.all_eq_true] at *
  exact fun a ha => subB_at _ (subB_set o k) (h a ha)
theorem closed_step {gs : List GateM} {o : List Bool} {k : Nat} {g : GateM} (hc : ClosedD gs o) (ho : o.length = gs.length) (hg : gs[k]? = some g) (hd : argsDone o g = true) : ClosedD gs (o.set k true) := by
  intro j x hj hon
  by_cases e : j = k
  · subst e; rw [hg] at hj; injection hj with hj; subst hj; exact argsDone_set hd
  · refine argsDone_set (hc j x hj ?_)
    have := onI_set o k j (by omega) (by have := (List.getElem?_eq_some_iff.1 hg).1; omega) (by omega)
    rw [Int.toNat_natCast] at this
    rw [this] at hon
    have e' : ¬ (j : Int) = (k : Int) := by omega
    simpa [e'] using hon
theorem closed_none (gs : List GateM) (n : Nat) : ClosedD gs (List.replicate n false) := fun j x _ h => by rw [onI_none] at h; cases h
theorem orderFrom_ord (gs : List GateM) (n : Nat) : ∀ (o : List Bool) (out l : List Int), orderFrom gs n o out = some l → ∃ r, l = out ++ r ∧ r.length = n ∧ OrdM gs o r := by
  induction n with
  | zero => intro o out l h; simp [orderFrom] at h; exact ⟨[], by simp [h], rfl, trivial⟩
  | succ n ih =>
    intro o out l h
    simp only [orderFrom] at h
    split at h
    · cases h
    · rename_i hr
      obtain ⟨r, h1, h2, h3⟩ := ih _ _ _ h
      rcases readyM_spec gs o with e | ⟨j, g, e1, e2, e3, e4⟩
      · omega
      · refine ⟨readyM gs o :: r, by simp [h1], by simp [h2], by omega, ⟨g, ?_, ?_, e4⟩, h3⟩
        · rw [e1]; simpa using e2
        · rw [e1]; exact e3
theorem orderM_ord {gs : List GateM} {l : List Int} (h : orderM gs = some l) : l.length = gs.length ∧ OrdM gs (List.replicate gs.length false) l := by
  obtain ⟨r, h1, h2, h3⟩ := orderFrom_ord _ _ _ _ _ h
  simp at h1; subst h1; exact ⟨h2, h3⟩
theorem cnt_set {o : List Bool} : ∀ {k : Nat}, o[k]? = some false → cnt (o.set k true) = cnt o + 1 := by
  induction o with
  | nil => intro k h; simp at h
  | cons x o ih =>
    intro k h
    cases k with
    | zero => simp at h; subst h; simp [cnt]
    | succ k => have := ih (k := k) (by simpa using h); simp only [cnt, List.set_cons_succ, List.countP_cons] at *; omega
theorem off_some {o : List Bool} {k : Int} (h : onI o k = false) (hl : k.toNat < o.length) : o[k.toNat]? = some false := by
  unfold onI at h; rw [List.getElem?_eq_getElem hl] at h ⊢; simpa using h
/-- Where an order ends, all are done. -/
theorem OrdM.all {gs : List GateM} : ∀ {l : List Int} {o : List Bool}, OrdM gs o l → o.length = gs.length → ∃ o' : List Bool, o' = l.foldl (fun o k => o.set k.toNat true) o ∧ o'.length = gs.length ∧ cnt o' = cnt o + l.length
  | [], o, _, ho => ⟨o, rfl, ho, rfl⟩
  | k :: l, o, h, ho => by
    obtain ⟨h0, ⟨g, hg, hon, _⟩, h3⟩ := h
    have hk : k.toNat < o.length := by have := (List.getElem?_eq_some_iff.1 hg).1; omega
    obtain ⟨o', h1, h2, h4⟩ := OrdM.all h3 (by simp [ho])
    exact ⟨o', by simpa using h1, h2, by rw [h4, cnt_set (off_some hon hk)]; simp; omega⟩
theorem all_on {o : List Bool} (h : cnt o = o.length) (k : Nat) (hk : k < o.length) : onI o k = true := by
  have := List.countP_eq_length.1 h o[k] (List.getElem_mem hk)
  simpa [onI, List.getElem?_eq_getElem hk] using this

/-! what is told along an order -/
def alongM (gs : List GateM) (regs ins : List Int) : List Int → List Int → List Int
  | [], v => v
  | k :: l, v => alongM gs regs ins l (v.set k.toNat (worthM regs ins v ((gs[k.toNat]?).getD ⟨0, 0, []⟩)))
theorem along_len (gs : List GateM) (regs ins : List Int) : ∀ (l v : List Int), (alongM gs regs ins l v).length = v.length
  | [], v => rfl
  | k :: l, v => by simp only [alongM]; rw [along_len gs regs ins l]; simp
theorem along_solves {gs : List GateM} {regs ins : List Int} (ok : okArgs gs) : ∀ (l : List Int) (o : List Bool) (v : List Int), OrdM gs o l → o.length = gs.length → v.length = gs.length → ClosedD gs o →
    (∀ (j : Nat) (x : GateM), gs[j]? = some x → onI o j = true → worthM regs ins v x = valI v j) →
    ∀ (j : Nat) (x : GateM), gs[j]? = some x → onI (l.foldl (fun o k => o.set k.toNat true) o) j = true → worthM regs ins (alongM gs regs ins l v) x = valI (alongM gs regs ins l v) j
  | [], _, _, _, _, _, _, h => h
  | k :: l, o, v, hO, ho, hv, hc, h => by
    obtain ⟨h0, ⟨g, hg, hon, hd⟩, h3⟩ := hO
    have hkl := (List.getElem?_eq_some_iff.1 hg).1
    have hk1 : k < gs.length := by omega
    refine along_solves ok l _ _ h3 (by simp [ho]) (by simp [hv]) (closed_step hc ho hg hd) (fun j x hj hoj => ?_)
    rw [hg, Option.getD_some]
    have hs := fun i : Nat => valI_set v k (worthM regs ins v g) i h0 (by omega)
    have hon' := onI_set o k j h0 (by omega) (by omega)
    rw [hon'] at hoj
    have hsame : ∀ y : GateM, y ∈ gs → argsDone o y = true → worthM regs ins (v.set k.toNat (worthM regs ins v g)) y = worthM regs ins v y := fun y hy hdy => by
      refine worth_other fun a ha => ?_
      have ha0 := (ok y hy a ha).1
      have := hs a.toNat
      rw [show ((a.toNat : Nat) : Int) = a from by omega] at this
      rw [this, if_neg]
      intro e
      unfold argsDone at hdy; rw [List.all_eq_true] at hdy
      have := hdy a ha; rw [e, hon] at this; cases this
    rw [hs j]
    by_cases e : (j : Int) = k
    · have : j = k.toNat := by omega
      subst this
      rw [hg] at hj; injection hj with hj; subst hj
      rw [if_pos e, hsame g (List.mem_of_getElem? hg) hd]
    · rw [if_neg e]
      have hoj' : onI o j = true := by simpa [e] using hoj
      rw [hsame x (List.mem_of_getElem? hj) (hc j x hj hoj'), h j x hj hoj']
/-- What is told along an order solves. -/
theorem along_fix {gs : List GateM} {regs ins l v : List Int} (ok : okArgs gs) (h : orderM gs = some l) (hv : v.length = gs.length) : nextV gs regs ins (alongM gs regs ins l v) = alongM gs regs ins l v := by
  obtain ⟨hl, hO⟩ := orderM_ord h
  obtain ⟨o', h1, h2, h3⟩ := OrdM.all hO (by simp)
  have hz : cnt (List.replicate gs.length false) = 0 := by simp [cnt]
  refine val_ext (by rw [next_len, along_len, hv]) fun j hj => ?_
  rw [next_len] at hj
  rw [next_val (List.getElem?_eq_getElem hj)]
  refine along_solves ok l _ v hO (by simp) hv (closed_none _ _) (fun j x _ h => by rw [onI_none] at h; cases h) j _ (List.getElem?_eq_getElem hj) ?_
  rw [← h1]
  exact all_on (by omega) j (by omega)
/-- Where there is an order, nothing else solves. -/
theorem order_agree {gs : List GateM} {regs ins u v : List Int} (ok : okArgs gs) (hu : u.length = gs.length) (hv : v.length = gs.length) (fu : nextV gs regs ins u = u) (fv : nextV gs regs ins v = v) : ∀ (l : List Int) (o : List Bool), OrdM gs o l → o.length = gs.length →
    (∀ j : Nat, j < gs.length → onI o j = true → valI u j = valI v j) → ∀ j : Nat, j < gs.length → onI (l.foldl (fun o k => o.set k.toNat true) o) j = true → valI u j = valI v j
  | [], _, _, _, h => h
  | k :: l, o, hO, ho, h => by
    obtain ⟨h0, ⟨g, hg, hon, hd⟩, h3⟩ := hO
    have hkl := (List.getElem?_eq_some_iff.1 hg).1
    refine order_agree ok hu hv fu fv l _ h3 (by simp [ho]) (fun j hj hoj => ?_)
    have hon' := onI_set o k j h0 (by omega) (by omega)
    rw [hon'] at hoj
    by_cases e : (j : Int) = k
    · have : j = k.toNat := by omega
      subst this
      have e1 := next_val (regs := regs) (ins := ins) (v := u) hg
      have e2 := next_val (regs := regs) (ins := ins) (v := v) hg
      rw [fu] at e1; rw [fv] at e2
      rw [e1, e2]
      refine worth_other fun a ha => ?_
      have ha0 := ok g (List.mem_of_getElem? hg) a ha
      unfold argsDone at hd; rw [List.all_eq_true] at hd
      have h4 := h a.toNat (by omega)
      rw [show ((a.toNat : Nat) : Int) = a from by omega] at h4
      exact h4 (hd a ha)
    · exact h j hj (by simpa [e] using hoj)
theorem order_one {gs : List GateM} {regs ins u v l : List Int} (ok : okArgs gs) (h : orderM gs = some l) (hu : u.length = gs.length) (hv : v.length = gs.length) (fu : nextV gs regs ins u = u) (fv : nextV gs regs ins v = v) : u = v := by
  obtain ⟨hl, hO⟩ := orderM_ord h
  obtain ⟨o', h1, h2, h3⟩ := OrdM.all hO (by simp)
  have hz : cnt (List.replicate gs.length false) = 0 := by simp [cnt]
  refine val_ext (by rw [hu, hv]) fun j hj => ?_
  refine order_agree ok hu hv fu fv l _ hO (by simp) (fun j _ h => by rw [onI_none] at h; cases h) j (by omega) ?_
  rw [← h1]
  exact all_on (by omega) j (by omega)
theorem along_settled {gs : List GateM} {regs ins l v : List Int} (ok : okArgs gs) (h : orderM gs = some l) (hv : v.length = gs.length) : alongM gs regs ins l v = settledM gs regs ins :=
  order_one ok h (by rw [along_len, hv]) (settled_len _ _ _) (along_fix ok h hv) (settled_least _ _ _).fix
theorem notM_shut {x : Int} (h : x = 0 ∨ x = 1) : notM x ≠ 2 := by rcases h with rfl | rfl <;> decide
theorem val_shut {l : List Int} (h : (2 : Int) ∉ l) (k : Int) : valI l k ≠ 2 := by
  unfold valI
  cases e : l[k.toNat]? with
  | none => simp
  | some x => intro e2; simp at e2; subst e2; exact h (List.mem_of_getElem? e)
theorem worth_shut {regs ins v : List Int} {g : GateM} (hr : (2 : Int) ∉ regs) (hi : (2 : Int) ∉ ins) (hv : ∀ a ∈ g.args, valI v a = 0 ∨ valI v a = 1) : worthM regs ins v g ≠ 2 := by
  unfold worthM
  split
  · decide
  split
  · decide
  split
  · exact val_shut hi _
  split
  · exact val_shut hr _
  have hm : (2 : Int) ∉ g.args.map (valI v) := fun hm => by
    obtain ⟨a, ha, e⟩ := List.mem_map.1 hm
    rcases hv a ha with h | h <;> omega
  unfold ofM
  split
  · rw [gatherM_eq 0 (by decide), if_neg hm]; split <;> decide
  split
  · rw [gatherM_eq 1 (by decide), if_neg hm]; split <;> decide
  · cases hg : g.args with
    | nil => exact notM_shut (.inl rfl)
    | cons a l => exact notM_shut (hv a (by rw [hg]; simp))
theorem order_shut_on {gs : List GateM} {regs ins v : List Int} (ok : okArgs gs) (gr : goodL regs) (gi : goodL ins) (gv : goodL v) (hr : (2 : Int) ∉ regs) (hi : (2 : Int) ∉ ins) (fv : nextV gs regs ins v = v) : ∀ (l : List Int) (o : List Bool), OrdM gs o l → o.length = gs.length →
    (∀ j : Nat, j < gs.length → onI o j = true → valI v j ≠ 2) → ∀ j : Nat, j < gs.length → onI (l.foldl (fun o k => o.set k.toNat true) o) j = true → valI v j ≠ 2
  | [], _, _, _, h => h
  | k :: l, o, hO, ho, h => by
    obtain ⟨h0, ⟨g, hg, hon, hd⟩, h3⟩ := hO
    have hkl := (List.getElem?_eq_some_iff.1 hg).1
    refine order_shut_on ok gr gi gv hr hi fv l _ h3 (by simp [ho]) (fun j hj hoj => ?_)
    rw [onI_set o k j h0 (by omega) (by omega)] at hoj
    by_cases e : (j : Int) = k
    · have : j = k.toNat := by omega
      subst this
      have e1 := next_val (regs := regs) (ins := ins) (v := v) hg
      rw [fv] at e1
      rw [e1]
      refine worth_shut hr hi fun a ha => ?_
      have ha0 := ok g (List.mem_of_getElem? hg) a ha
      unfold argsDone at hd; rw [List.all_eq_true] at hd
      have h4 := h a.toNat (by omega)
      rw [show ((a.toNat : Nat) : Int) = a from by omega] at h4
      have h5 := h4 (hd a ha)
      rcases valI_good gv a with h6 | h6 | h6
      · exact .inl h6
      · exact .inr h6
      · exact absurd h6 h5
    · exact h j hj (by simpa [e] using hoj)
/-- Where there is an order, nothing is open if nothing that is handed in is. -/
theorem order_shut {gs : List GateM} {regs ins l : List Int} (ok : okArgs gs) (h : orderM gs = some l) (gr : goodL regs) (gi : goodL ins) (hr : (2 : Int) ∉ regs) (hi : (2 : Int) ∉ ins) : (2 : Int) ∉ settledM gs regs ins := by
  obtain ⟨hl, hO⟩ := orderM_ord h
  obtain ⟨o', h1, h2, h3⟩ := OrdM.all hO (by simp)
  have hz : cnt (List.replicate gs.length false) = 0 := by simp [cnt]
  intro hm
  obtain ⟨j, hj⟩ := List.mem_iff_getElem?.1 hm
  have hjl := (List.getElem?_eq_some_iff.1 hj).1
  rw [settled_len] at hjl
  refine order_shut_on ok gr gi (settled_good gr gi) hr hi (settled_least _ _ _).fix l _ hO (by simp) (fun j _ h => by rw [onI_none] at h; cases h) j hjl ?_ (by simp [valI, hj])
  rw [← h1]
  exact all_on (by omega) j (by omega)
/-- Where each gate's args stand ahead of it, there is an order. -/
theorem order_of_ahead {gs : List GateM} (h : ∀ (k : Nat) (g : GateM), gs[k]? = some g → ∀ a ∈ g.args, 0 ≤ a ∧ a < k) : ∀ (n : Nat) (o : List Bool) (out : List Int), o.length = gs.length → cnt o + n = gs.length → ∃ l, orderFrom gs n o out = some l
  | 0, o, out, _, _ => ⟨out, rfl⟩
  | n + 1, o, out, ho, hc => by
    have hex : ∃ j : Nat, j < gs.length ∧ onI o j = false ∧ ∀ i : Nat, i < j → onI o i = true := by
      have : ∀ m : Nat, m ≤ gs.length → (∀ i : Nat, i < m → onI o i = true) ∨ ∃ j : Nat, j < gs.length ∧ onI o j = false ∧ ∀ i : Nat, i < j → onI o i = true := by
        intro m
        induction m with
        | zero => exact fun _ => .inl fun i hi => by omega
        | succ m ih =>
          intro hm
          rcases ih (by omega) with e | e
          · cases hb : onI o m with
            | false => exact .inr ⟨m, by omega, hb, e⟩
            | true =>
              refine .inl fun i hi => ?_
              rcases Nat.lt_or_ge i m with h1 | h1
              · exact e i h1
              · have : i = m := by omega
                subst this; exact hb
          · exact .inr e
      rcases this gs.length (Nat.le_refl _) with e | e
      · have : cnt o = o.length := List.countP_eq_length.2 fun b hb => by
          obtain ⟨i, hi⟩ := List.mem_iff_getElem?.1 hb
          have hil := (List.getElem?_eq_some_iff.1 hi).1
          have := e i (by omega)
          simpa [onI, hi] using this
        omega
      · exact e
    obtain ⟨j, hj, hoff, hlow⟩ := hex
    have hg := List.getElem?_eq_getElem hj
    have hr : 0 ≤ readyM gs o := readyFrom_some gs o gs 0 j _ hg (by simpa using hoff) (by
      unfold argsDone; rw [List.all_eq_true]; intro a ha
      have := h j _ hg a ha
      have h2 := hlow a.toNat (by omega)
      rwa [show ((a.toNat : Nat) : Int) = a from by omega] at h2)
    simp only [orderFrom]
    rw [if_neg (by omega)]
    refine order_of_ahead h n _ _ (by simp [ho]) ?_
    rcases readyM_spec gs o with e | ⟨i, g, e1, e2, e3, e4⟩
    · omega
    · have hil := (List.getElem?_eq_some_iff.1 e2).1
      rw [e1, Int.toNat_natCast, cnt_set (by have := off_some e3 (by simpa [ho] using hil); simpa using this)]
      omega
end Go.Proofs.Ytjagbnaacfhokaa
