/- Three values, in plain Lean: what each function computes, and that the program and the reference compute the same. No program in sight. -/
import Derived.Test.YtlafiddfplhafaaFb01
import Derived.Test.YtlafiddfplhafaaChecked
namespace Go.Proofs.Ytlafiddfplhafaa
set_option linter.unusedVariables false
set_option linter.unusedSimpArgs false
set_option linter.unusedVariables false
set_option linter.unusedSimpArgs false
def bad3 (n : Int) : Bool := decide (n < 0) || decide (2 < n)
def gatherM (rules : Int) : List Int → Int → Int
  | [], out => out
  | v :: l, out => if v = rules then rules else gatherM rules l (if v = 2 then 2 else out)
def indexM (q : Int → Bool) : List Int → Int → Int
  | [], _ => -1
  | x :: l, k => if q x then k else indexM q l (k + 1)
theorem indexM_lo (q : Int → Bool) (l : List Int) : ∀ k : Int, 0 ≤ k → decide (0 ≤ indexM q l k) = l.any q := by
  induction l with
  | nil => intro k _; simp [indexM]
  | cons x l ih =>
    intro k hk
    by_cases h : q x = true
    · simp [indexM, h, hk]
    · simp only [indexM, h, List.any_cons]; simpa using ih (k + 1) (by omega)
def notM (v : Int) : Int := if v = 0 then 1 else if v = 1 then 0 else 2
def ofM (kind : Int) (l : List Int) : Int :=
  if kind = 4 then gatherM 0 l 1 else if kind = 5 then gatherM 1 l 0 else notM (l.headD 0)
def leqM : List Int → List Int → Bool
  | x :: a, y :: b => (decide (x = 2) || decide (x = y)) && leqM a b
  | _, _ => true
/-! the plain laws -/
theorem gatherM_eq (r : Int) (hr : r ≠ 2) (l : List Int) : ∀ out, gatherM r l out = if r ∈ l then r else if (2 : Int) ∈ l then 2 else out := by
  induction l with
  | nil => intro out; simp [gatherM]
  | cons x l ih =>
    intro out
    by_cases h : x = r
    · subst h; simp [gatherM]
    · have h' : ¬ r = x := fun e => h e.symm
      by_cases h2 : x = 2
      · subst h2; simp only [gatherM, if_neg h, if_true, ih]; simp [h']
      · have h2' : ¬ 2 = x := fun e => h2 e.symm
        simp only [gatherM, if_neg h, if_neg h2, ih]; simp [h', h2']
theorem good3 {x : Int} (h : bad3 x = false) : x = 0 ∨ x = 1 ∨ x = 2 := by simp [bad3] at h; omega
theorem notM_good (x : Int) : bad3 (notM x) = false := by
  unfold notM; split
  · rfl
  · split <;> rfl
theorem leqM_mem (r : Int) : ∀ xs ys : List Int, xs.length = ys.length → leqM xs ys = true → r ≠ 2 → r ∈ xs → r ∈ ys
  | [], _, _, _, _, h => by simp at h
  | x :: xs, [], hl, _, _, _ => by simp at hl
  | x :: xs, y :: ys, hl, h, hr, hm => by
    simp only [leqM, Bool.and_eq_true, Bool.or_eq_true, decide_eq_true_eq] at h
    rcases List.mem_cons.1 hm with e | e
    · subst e
      rcases h.1 with h1 | h1
      · exact absurd h1 hr
      · subst h1; simp
    · exact List.mem_cons_of_mem _ (leqM_mem r xs ys (by simpa using hl) h.2 hr e)
theorem leqM_open : ∀ xs ys : List Int, xs.length = ys.length → leqM xs ys = true → (2 : Int) ∉ xs → xs = ys
  | [], [], _, _, _ => rfl
  | [], y :: ys, hl, _, _ => by simp at hl
  | x :: xs, [], hl, _, _ => by simp at hl
  | x :: xs, y :: ys, hl, h, hm => by
    simp only [leqM, Bool.and_eq_true, Bool.or_eq_true, decide_eq_true_eq] at h
    have hx : ¬ x = 2 := fun e => hm (by simp [e])
    rcases h.1 with h1 | h1
    · exact absurd h1 hx
    · rw [h1, leqM_open xs ys (by simpa using hl) h.2 (fun e => hm (List.mem_cons_of_mem _ e))]
theorem leq_of (k : Int) (hk : k = 4 ∨ k = 5) (xs ys : List Int) (hl : xs.length = ys.length) (h : leqM xs ys = true) : ofM k xs = 2 ∨ ofM k xs = ofM k ys := by
  have h5 : ¬ (5 : Int) = 4 := by decide
  by_cases hm : (2 : Int) ∈ xs
  · rcases hk with rfl | rfl
    · by_cases h0 : (0 : Int) ∈ xs
      · right; have := leqM_mem 0 xs ys hl h (by decide) h0; simp [ofM, gatherM_eq 0, h0, this]
      · left; simp [ofM, gatherM_eq 0, h0, hm]
    · by_cases h0 : (1 : Int) ∈ xs
      · right; have := leqM_mem 1 xs ys hl h (by decide) h0; simp [ofM, gatherM_eq 1, h0, this]
      · left; simp [ofM, gatherM_eq 1, h0, hm]
  · right; rw [leqM_open xs ys hl h hm]
end Go.Proofs.Ytlafiddfplhafaa
/- What is settled, in plain Lean: rounds and the work list tell the same, the least that solves. No program in sight. -/
namespace Go.Proofs.Ytlafiddfplhafaa
set_option linter.unusedVariables false
set_option linter.unusedSimpArgs false
def valI (v : List Int) (k : Int) : Int := v[k.toNat]?.getD 0
def worthM (regs ins v : List Int) (g : GateM) : Int :=
  if g.kind = 0 then 0 else if g.kind = 1 then 1 else if g.kind = 2 then valI ins g.num else if g.kind = 3 then valI regs g.num
  else ofM g.kind (g.args.map (valI v))
def nextV (gs : List GateM) (regs ins v : List Int) : List Int := gs.map (worthM regs ins v)
def itV (gs : List GateM) (regs ins : List Int) : Nat → List Int → List Int
  | 0, v => v
  | n + 1, v => itV gs regs ins n (nextV gs regs ins v)
def opensM (n : Nat) : List Int := List.replicate n 2
def settledM (gs : List GateM) (regs ins : List Int) : List Int := itV gs regs ins gs.length (opensM gs.length)
def goodL (l : List Int) : Prop := ∀ x ∈ l, x = 0 ∨ x = 1 ∨ x = 2
def leI (x y : Int) : Prop := x = 2 ∨ x = y
theorem goodL_of {l : List Int} (h : l.any bad3 = false) : goodL l := fun x hx => good3 (by have := List.any_eq_false.1 h x hx; simpa using this)
theorem goodL_any {l : List Int} (h : goodL l) : l.any bad3 = false := by
  rw [List.any_eq_false]; intro x hx
  rcases h x hx with rfl | rfl | rfl <;> decide
theorem leI.refl (x : Int) : leI x x := .inr rfl
theorem leI.trans {x y z : Int} (h : leI x y) (k : leI y z) : leI x z := by
  rcases h with h | rfl
  · exact .inl h
  · exact k
theorem leI.anti {x y : Int} (h : leI x y) (k : leI y x) : x = y := by
  rcases h with rfl | h
  · rcases k with h | h <;> omega
  · exact h
/-! leqM: as lists -/
theorem leqM_refl (a : List Int) : leqM a a = true := by
  induction a with
  | nil => rfl
  | cons x a ih => simp [leqM, ih]
theorem leqM_iff : ∀ {a b : List Int}, a.length = b.length → (leqM a b = true ↔ ∀ k : Nat, k < a.length → leI (a[k]?.getD 0) (b[k]?.getD 0))
  | [], [], _ => by simp [leqM]
  | [], y :: b, h => by simp at h
  | x :: a, [], h => by simp at h
  | x :: a, y :: b, h => by
    have ih := leqM_iff (a := a) (b := b) (by simpa using h)
    simp only [leqM, Bool.and_eq_true, Bool.or_eq_true, decide_eq_true_eq, ih]
    constructor
    · rintro ⟨h1, h2⟩ k hk
      cases k with
      | zero => simpa [leI] using h1
      | succ k => simpa using h2 k (by simpa using hk)
    · intro h2
      exact ⟨by simpa [leI] using h2 0 (by simp), fun k hk => by simpa using h2 (k + 1) (by simpa using hk)⟩
theorem leqM_val {a b : List Int} (hl : a.length = b.length) (h : leqM a b = true) (k : Int) : leI (valI a k) (valI b k) := by
  unfold valI
  rcases Nat.lt_or_ge k.toNat a.length with e | e
  · exact (leqM_iff hl).1 h _ e
  · rw [List.getElem?_eq_none e, List.getElem?_eq_none (by omega)]; exact leI.refl _
theorem leqM_of_val {a b : List Int} (hl : a.length = b.length) (h : ∀ k : Nat, k < a.length → leI (valI a k) (valI b k)) : leqM a b = true :=
  (leqM_iff hl).2 fun k hk => by have := h k hk; simpa [valI] using this
theorem val_ext {a b : List Int} (hl : a.length = b.length) (h : ∀ k : Nat, k < a.length → valI a k = valI b k) : a = b := by
  apply List.ext_getElem hl
  intro i h1 h2
  have := h i h1
  simpa [valI, List.getElem?_eq_getElem h1, List.getElem?_eq_getElem h2] using this
theorem leqM_anti {a b : List Int} (hl : a.length = b.length) (h : leqM a b = true) (k : leqM b a = true) : a = b :=
  val_ext hl fun i _ => (leqM_val hl h i).anti (leqM_val hl.symm k i)
theorem leqM_opens (v : List Int) : leqM (opensM v.length) v = true := by
  refine leqM_of_val (by simp [opensM]) fun k hk => ?_
  left; simp only [opensM, List.length_replicate] at hk
  simp [valI, opensM, hk]
/-! gates -/
theorem leqM_map {v u : List Int} (hl : v.length = u.length) (h : leqM v u = true) (l : List Int) : leqM (l.map (valI v)) (l.map (valI u)) = true := by
  induction l with
  | nil => rfl
  | cons a l ih =>
    simp only [List.map_cons, leqM, ih, Bool.and_true, Bool.or_eq_true, decide_eq_true_eq]
    exact leqM_val hl h a
theorem worth_mono {regs regs' ins ins' v u : List Int} (hr : regs.length = regs'.length) (hi : ins.length = ins'.length) (hl : v.length = u.length)
    (h1 : leqM regs regs' = true) (h2 : leqM ins ins' = true) (h : leqM v u = true) (g : GateM) : leI (worthM regs ins v g) (worthM regs' ins' u g) := by
  unfold worthM
  split
  · exact leI.refl _
  split
  · exact leI.refl _
  split
  · exact leqM_val hi h2 _
  split
  · exact leqM_val hr h1 _
  have hm := leqM_map hl h g.args
  by_cases k4 : g.kind = 4
  · exact leq_of _ (.inl k4) _ _ (by simp) hm
  by_cases k5 : g.kind = 5
  · exact leq_of _ (.inr k5) _ _ (by simp) hm
  simp only [ofM, if_neg k4, if_neg k5]
  cases hg : g.args with
  | nil => exact leI.refl _
  | cons a l =>
    simp only [List.map_cons, List.headD_cons]
    rcases leqM_val hl h a with e | e
    · left; rw [e]; rfl
    · right; rw [e]
theorem next_len (gs : List GateM) (regs ins v : List Int) : (nextV gs regs ins v).length = gs.length := by simp [nextV]
theorem next_val {gs : List GateM} {regs ins v : List Int} {k : Nat} {g : GateM} (h : gs[k]? = some g) : valI (nextV gs regs ins v) k = worthM regs ins v g := by
  simp [valI, nextV, h]
theorem next_mono {gs : List GateM} {regs regs' ins ins' v u : List Int} (hr : regs.length = regs'.length) (hi : ins.length = ins'.length) (hl : v.length = u.length)
    (h1 : leqM regs regs' = true) (h2 : leqM ins ins' = true) (h : leqM v u = true) : leqM (nextV gs regs ins v) (nextV gs regs' ins' u) = true := by
  refine leqM_of_val (by simp [next_len]) fun k hk => ?_
  rw [next_len] at hk
  rw [next_val (List.getElem?_eq_getElem hk), next_val (List.getElem?_eq_getElem hk)]
  exact worth_mono hr hi hl h1 h2 h _
theorem valI_good {v : List Int} (h : goodL v) (k : Int) : valI v k = 0 ∨ valI v k = 1 ∨ valI v k = 2 := by
  unfold valI
  cases e : v[k.toNat]? with
  | none => left; rfl
  | some x => exact h x (List.mem_of_getElem? e)
theorem ofM_good {l : List Int} (hk : goodL l) (k : Int) : ofM k l = 0 ∨ ofM k l = 1 ∨ ofM k l = 2 := by
  unfold ofM
  split
  · rw [gatherM_eq 0 (by decide)]; repeat' split
    all_goals simp
  split
  · rw [gatherM_eq 1 (by decide)]; repeat' split
    all_goals simp
  · exact good3 (notM_good _)
theorem worth_good {regs ins v : List Int} (hr : goodL regs) (hi : goodL ins) (hv : goodL v) (g : GateM) : worthM regs ins v g = 0 ∨ worthM regs ins v g = 1 ∨ worthM regs ins v g = 2 := by
  unfold worthM
  split
  · simp
  split
  · simp
  split
  · exact valI_good hi _
  split
  · exact valI_good hr _
  refine ofM_good (fun x hx => ?_) _
  obtain ⟨a, _, rfl⟩ := List.mem_map.1 hx
  exact valI_good hv a
theorem next_good {gs : List GateM} {regs ins v : List Int} (hr : goodL regs) (hi : goodL ins) (hv : goodL v) : goodL (nextV gs regs ins v) := fun x hx => by
  obtain ⟨g, _, rfl⟩ := List.mem_map.1 hx
  exact worth_good hr hi hv g
/-! the least that solves -/
structure LeastV (gs : List GateM) (regs ins v : List Int) : Prop where
  len : v.length = gs.length
  fix : nextV gs regs ins v = v
  least : ∀ u : List Int, u.length = gs.length → nextV gs regs ins u = u → leqM v u = true
theorem LeastV.uniq {gs : List GateM} {regs ins v u : List Int} (h : LeastV gs regs ins v) (k : LeastV gs regs ins u) : v = u :=
  leqM_anti (by rw [h.len, k.len]) (h.least u k.len k.fix) (k.least v h.len h.fix)
def cntV (v : List Int) : Nat := v.countP (fun x => !decide (x = 2))
theorem cntV_le : ∀ {a b : List Int}, a.length = b.length → leqM a b = true → cntV a ≤ cntV b ∧ (cntV a = cntV b → a = b)
  | [], [], _, _ => ⟨Nat.le_refl _, fun _ => rfl⟩
  | [], y :: b, h, _ => by simp at h
  | x :: a, [], h, _ => by simp at h
  | x :: a, y :: b, h, k => by
    simp only [leqM, Bool.and_eq_true, Bool.or_eq_true, decide_eq_true_eq] at k
    obtain ⟨h1, h2⟩ := cntV_le (a := a) (b := b) (by simpa using h) k.2
    unfold cntV at *
    rcases k.1 with e | e
    · subst e
      by_cases hy : y = 2
      · subst hy; simp_all
      · simp [hy]; constructor <;> omega
    · subst e
      by_cases hx : x = 2
      · subst hx; simp_all
      · simp [hx]; exact ⟨h1, h2⟩
theorem cntV_max (v : List Int) : cntV v ≤ v.length := List.countP_le_length
/-- A state of the rounds: it grows, and says no more than whatever solves. -/
structure RoundV (gs : List GateM) (regs ins v : List Int) : Prop where
  len : v.length = gs.length
  up : leqM v (nextV gs regs ins v) = true
  below : ∀ u : List Int, u.length = gs.length → nextV gs regs ins u = u → leqM v u = true
theorem RoundV.start (gs : List GateM) (regs ins : List Int) : RoundV gs regs ins (opensM gs.length) :=
  ⟨by simp [opensM], by have := leqM_opens (nextV gs regs ins (opensM gs.length)); rwa [next_len] at this, fun u hu _ => by have := leqM_opens u; rwa [hu] at this⟩
theorem RoundV.next {gs : List GateM} {regs ins v : List Int} (h : RoundV gs regs ins v) : RoundV gs regs ins (nextV gs regs ins v) :=
  ⟨next_len _ _ _ _, next_mono rfl rfl (by rw [next_len, h.len]) (leqM_refl _) (leqM_refl _) h.up, fun u hu hf => by
    have := next_mono (gs := gs) (regs := regs) (ins := ins) rfl rfl (by rw [h.len, hu]) (leqM_refl _) (leqM_refl _) (h.below u hu hf)
    rwa [hf] at this⟩
theorem RoundV.more {gs : List GateM} {regs ins v : List Int} (h : RoundV gs regs ins v) (hn : nextV gs regs ins v ≠ v) : cntV v < cntV (nextV gs regs ins v) := by
  have h1 := cntV_le (by rw [next_len, h.len]) h.up
  rcases Nat.lt_or_ge (cntV v) (cntV (nextV gs regs ins v)) with e | e
  · exact e
  · exact absurd (h1.2 (by omega)).symm hn
theorem RoundV.done {gs : List GateM} {regs ins v : List Int} (h : RoundV gs regs ins v) (hf : nextV gs regs ins v = v) : LeastV gs regs ins v := ⟨h.len, hf, h.below⟩
theorem itV_fixed {gs : List GateM} {regs ins : List Int} (n : Nat) : ∀ {v : List Int}, nextV gs regs ins v = v → itV gs regs ins n v = v := by
  induction n with
  | zero => intro v _; rfl
  | succ n ih => intro v h; simp only [itV, h]; exact ih h
theorem itV_least {gs : List GateM} {regs ins : List Int} (n : Nat) : ∀ {v : List Int}, RoundV gs regs ins v → gs.length ≤ n + cntV v → LeastV gs regs ins (itV gs regs ins n v) := by
  induction n with
  | zero =>
    intro v h hn
    refine h.done ?_
    have h1 := cntV_le (by rw [next_len, h.len]) h.up
    have h2 := cntV_max (nextV gs regs ins v)
    rw [next_len] at h2
    exact (h1.2 (by omega)).symm
  | succ n ih =>
    intro v h hn
    by_cases e : nextV gs regs ins v = v
    · rw [itV_fixed _ e]; exact h.done e
    · exact ih h.next (by have := h.more e; omega)
theorem settled_least (gs : List GateM) (regs ins : List Int) : LeastV gs regs ins (settledM gs regs ins) := itV_least _ (RoundV.start gs regs ins) (by omega)
theorem settled_len (gs : List GateM) (regs ins : List Int) : (settledM gs regs ins).length = gs.length := (settled_least gs regs ins).len
theorem itV_good {gs : List GateM} {regs ins : List Int} (hr : goodL regs) (hi : goodL ins) (n : Nat) : ∀ {v : List Int}, goodL v → goodL (itV gs regs ins n v) := by
  induction n with
  | zero => intro v h; exact h
  | succ n ih => intro v h; exact ih (next_good hr hi h)
theorem opens_good (n : Nat) : goodL (opensM n) := fun x hx => by rw [opensM, List.mem_replicate] at hx; exact .inr (.inr hx.2)
theorem settled_good {gs : List GateM} {regs ins : List Int} (hr : goodL regs) (hi : goodL ins) : goodL (settledM gs regs ins) := itV_good hr hi _ (opens_good _)
/-! the users of each gate -/
def addUses (u : List (List Int)) (k : Int) (args : List Int) : List (List Int) := args.foldl (fun u a => u.modify a.toNat (· ++ [k])) u
def usersFrom : List GateM → Nat → List (List Int) → List (List Int)
  | [], _, u => u
  | g :: l, k, u => usersFrom l (k + 1) (addUses u k g.args)
def usersM (gs : List GateM) : List (List Int) := usersFrom gs 0 (List.replicate gs.length [])
def useI (u : List (List Int)) (a : Int) : List Int := u[a.toNat]?.getD []
def totalU (u : List (List Int)) : Nat := (u.map List.length).sum
theorem addUses_len (k : Int) (args : List Int) : ∀ u, (addUses u k args).length = u.length := by
  induction args with
  | nil => intro u; rfl
  | cons a l ih => intro u; simp only [addUses, List.foldl_cons] at *; rw [ih]; simp
theorem useI_modify (u : List (List Int)) (a b k : Int) (ha : 0 ≤ a) (hb : 0 ≤ b) : useI (u.modify a.toNat (· ++ [k])) b = if a = b ∧ a < u.length then useI u b ++ [k] else useI u b := by
  unfold useI
  rw [List.getElem?_modify]
  by_cases e : a = b
  · subst e
    rcases Nat.lt_or_ge a.toNat u.length with h | h
    · rw [List.getElem?_eq_getElem h]; rw [if_pos ⟨rfl, by omega⟩]; simp
    · rw [List.getElem?_eq_none h]; rw [if_neg (by omega)]; simp
  · have : ¬ a.toNat = b.toNat := by omega
    simp [this, e]
theorem mem_addUses (k j b : Int) (hb : 0 ≤ b) (args : List Int) : ∀ u : List (List Int), (∀ a ∈ args, 0 ≤ a ∧ a < u.length) → (j ∈ useI (addUses u k args) b ↔ j ∈ useI u b ∨ (j = k ∧ b ∈ args)) := by
  induction args with
  | nil => intro u _; simp [addUses]
  | cons a l ih =>
    intro u h
    have ha := h a (by simp)
    have h2 := ih (u.modify a.toNat (· ++ [k])) (fun x hx => by simpa using h x (by simp [hx]))
    simp only [addUses, List.foldl_cons] at h2 ⊢
    rw [h2, useI_modify u a b k ha.1 hb]
    by_cases e : a = b
    · subst e; rw [if_pos ⟨rfl, ha.2⟩]; simp only [List.mem_append, List.mem_cons, List.not_mem_nil, or_false]
      constructor
      · rintro ((h | h) | h)
        · exact .inl h
        · exact .inr ⟨h, by simp⟩
        · exact .inr ⟨h.1, by simp⟩
      · rintro (h | h)
        · exact .inl (.inl h)
        · exact .inl (.inr h.1)
    · have e' : ¬ b = a := fun x => e x.symm
      rw [if_neg (fun x => e x.1)]; simp [e']
theorem mem_usersFrom {gs : List GateM} (j b : Int) (hb : 0 ≤ b) (ok : ∀ g ∈ gs, ∀ a ∈ g.args, 0 ≤ a ∧ a < gs.length) (l : List GateM) : ∀ (k : Nat) (u : List (List Int)), gs.drop k = l → u.length = gs.length →
    (j ∈ useI (usersFrom l k u) b ↔ j ∈ useI u b ∨ ∃ (i : Nat) (g : GateM), l[i]? = some g ∧ j = ((k + i : Nat) : Int) ∧ b ∈ g.args) := by
  induction l with
  | nil => intro k u _ _; simp [usersFrom]
  | cons g l ih =>
    intro k u hd hu
    have hk : gs[k]? = some g := by
      have : (gs.drop k)[0]? = some g := by rw [hd]; rfl
      simpa using this
    have hd' : gs.drop (k + 1) = l := by rw [← List.drop_drop, hd]; rfl
    simp only [usersFrom]
    rw [ih (k + 1) _ hd' (by rw [addUses_len, hu]), mem_addUses k j b hb g.args u (by rw [hu]; exact ok g (List.mem_of_getElem? hk))]
    constructor
    · rintro ((h | ⟨rfl, h⟩) | ⟨i, x, h1, h2, h3⟩)
      · exact .inl h
      · exact .inr ⟨0, g, rfl, by simp, h⟩
      · exact .inr ⟨i + 1, x, by simpa using h1, by rw [h2]; omega, h3⟩
    · rintro (h | ⟨i, x, h1, h2, h3⟩)
      · exact .inl (.inl h)
      · cases i with
        | zero => simp at h1; subst h1; exact .inl (.inr ⟨by simpa using h2, h3⟩)
        | succ i => exact .inr ⟨i, x, by simpa using h1, by rw [h2]; omega, h3⟩
theorem mem_users {gs : List GateM} (ok : ∀ g ∈ gs, ∀ a ∈ g.args, 0 ≤ a ∧ a < gs.length) {j b : Int} (hb : 0 ≤ b) :
    j ∈ useI (usersM gs) b ↔ ∃ (i : Nat) (g : GateM), gs[i]? = some g ∧ j = (i : Int) ∧ b ∈ g.args := by
  unfold usersM
  rw [mem_usersFrom j b hb ok gs 0 _ rfl (by simp)]
  have : j ∉ useI (List.replicate gs.length []) b := by unfold useI; rw [List.getElem?_replicate]; split <;> simp
  simp [this]
theorem total_modify (k : Int) : ∀ (u : List (List Int)) (i : Nat), totalU (u.modify i (· ++ [k])) ≤ totalU u + 1
  | [], i => by simp [totalU]
  | x :: u, 0 => by simp [totalU]; omega
  | x :: u, i + 1 => by have := total_modify k u i; simp [totalU] at *; omega
theorem total_add (k : Int) (args : List Int) : ∀ u, totalU (addUses u k args) ≤ totalU u + args.length := by
  induction args with
  | nil => intro u; simp [addUses]
  | cons a l ih =>
    intro u
    have h1 := ih (u.modify a.toNat (· ++ [k]))
    have h2 := total_modify k u a.toNat
    simp only [addUses, List.foldl_cons, List.length_cons] at *
    omega
theorem total_from (m : Nat) (l : List GateM) (h : ∀ g ∈ l, g.args.length ≤ m) : ∀ k u, totalU (usersFrom l k u) ≤ totalU u + l.length * m := by
  induction l with
  | nil => intro k u; simp [usersFrom]
  | cons g l ih =>
    intro k u
    have h1 := ih (fun x hx => h x (by simp [hx])) (k + 1) (addUses u k g.args)
    have h2 := total_add k g.args u
    have h3 := h g (by simp)
    have h4 : (l.length + 1) * m = l.length * m + m := Nat.succ_mul _ _
    simp only [usersFrom, List.length_cons, h4]; omega
theorem total_users (m : Nat) (gs : List GateM) (h : ∀ g ∈ gs, g.args.length ≤ m) : totalU (usersM gs) ≤ gs.length * m := by
  have h1 := total_from m gs h 0 (List.replicate gs.length [])
  have h2 : totalU (List.replicate gs.length []) = 0 := by simp [totalU]
  rw [h2] at h1; unfold usersM; omega
/-! the work list -/
structure SInv (gs : List GateM) (regs ins v : List Int) (work : List Int) : Prop where
  len : v.length = gs.length
  good : goodL v
  below : ∀ u : List Int, u.length = gs.length → nextV gs regs ins u = u → leqM v u = true
  asc : ∀ (k : Nat) (g : GateM), gs[k]? = some g → valI v k ≠ 2 → worthM regs ins v g = valI v k
  wait : ∀ (k : Nat) (g : GateM), gs[k]? = some g → valI v k = 2 → (k : Int) ∉ work → worthM regs ins v g = 2
  ws : ∀ k ∈ work, 0 ≤ k ∧ k < gs.length
theorem SInv.start (gs : List GateM) (regs ins : List Int) (work : List Int) (hw : ∀ k : Int, k ∈ work ↔ 0 ≤ k ∧ k < gs.length) : SInv gs regs ins (opensM gs.length) work := by
  refine ⟨by simp [opensM], opens_good _, fun u hu _ => by have := leqM_opens u; rwa [hu] at this, fun k g hk h => absurd ?_ h, fun k g hk _ hn => absurd ?_ hn, fun k hk => (hw k).1 hk⟩
  · have : k < gs.length := (List.getElem?_eq_some_iff.1 hk).1
    simp [valI, opensM, this]
  · have : k < gs.length := (List.getElem?_eq_some_iff.1 hk).1
    exact (hw k).2 (by omega)
theorem SInv.done {gs : List GateM} {regs ins v : List Int} (h : SInv gs regs ins v []) : v = settledM gs regs ins := by
  have hf : nextV gs regs ins v = v := by
    refine val_ext (by rw [next_len, h.len]) fun k hk => ?_
    rw [next_len] at hk
    rw [next_val (List.getElem?_eq_getElem hk)]
    by_cases e : valI v k = 2
    · rw [h.wait k _ (List.getElem?_eq_getElem hk) e (by simp), e]
    · exact h.asc k _ (List.getElem?_eq_getElem hk) e
  exact LeastV.uniq ⟨h.len, hf, h.below⟩ (settled_least _ _ _)
theorem SInv.skip {gs : List GateM} {regs ins v : List Int} {k : Int} {work : List Int} (h : SInv gs regs ins v (k :: work)) (hk : valI v k ≠ 2) : SInv gs regs ins v work :=
  ⟨h.len, h.good, h.below, h.asc, fun j g hj he hn => h.wait j g hj he (fun e => by
    rcases List.mem_cons.1 e with e | e
    · rw [e] at he; exact hk he
    · exact hn e), fun j hj => h.ws j (by simp [hj])⟩
theorem SInv.none {gs : List GateM} {regs ins v : List Int} {k : Int} {work : List Int} {g : GateM} (h : SInv gs regs ins v (k :: work)) (hg : gs[k.toNat]? = some g) (hx : worthM regs ins v g = 2) : SInv gs regs ins v work :=
  ⟨h.len, h.good, h.below, h.asc, fun j g' hj he hn => by
    have h0 := (h.ws k (by simp)).1
    by_cases e : (j : Int) = k
    · have : k.toNat = j := by omega
      rw [this, hj] at hg; injection hg with hg; rw [hg]; exact hx
    · exact h.wait j g' hj he (fun x => by
        rcases List.mem_cons.1 x with x | x
        · exact e x
        · exact hn x), fun j hj => h.ws j (by simp [hj])⟩
theorem valI_set (v : List Int) (k : Int) (x : Int) (j : Nat) (h0 : 0 ≤ k) (h1 : k < v.length) : valI (v.set k.toNat x) j = if (j : Int) = k then x else valI v j := by
  unfold valI
  simp only [Int.toNat_natCast]
  rw [List.getElem?_set]
  by_cases e : (j : Int) = k
  · rw [if_pos (by omega : k.toNat = j), if_pos (by omega), if_pos e]; rfl
  · rw [if_neg (by omega : ¬ k.toNat = j), if_neg e]
theorem worth_other {regs ins v u : List Int} {g : GateM} (h : ∀ a ∈ g.args, valI v a = valI u a) : worthM regs ins v g = worthM regs ins u g := by
  unfold worthM
  have : g.args.map (valI v) = g.args.map (valI u) := List.map_congr_left h
  rw [this]
theorem SInv.settle {gs : List GateM} {regs ins v : List Int} {k : Int} {work : List Int} {g : GateM} (h : SInv gs regs ins v (k :: work)) (hr : goodL regs) (hi : goodL ins) (ok : ∀ g ∈ gs, ∀ a ∈ g.args, 0 ≤ a ∧ a < gs.length)
    (hg : gs[k.toNat]? = some g) (hv : valI v k = 2) (hx : worthM regs ins v g ≠ 2) : SInv gs regs ins (v.set k.toNat (worthM regs ins v g)) (work ++ useI (usersM gs) k) := by
  obtain ⟨h0, h1⟩ := h.ws k (by simp)
  have hs := fun j : Nat => valI_set v k (worthM regs ins v g) j h0 (by rw [h.len]; exact h1)
  have hl : v.length = (v.set k.toNat (worthM regs ins v g)).length := by simp
  have hup : leqM v (v.set k.toNat (worthM regs ins v g)) = true := leqM_of_val hl fun j _ => by
    rw [hs j]; split
    · rename_i e; left; rw [e]; exact hv
    · exact leI.refl _
  have hsame : ∀ (g' : GateM), worthM regs ins v g' ≠ 2 → worthM regs ins (v.set k.toNat (worthM regs ins v g)) g' = worthM regs ins v g' := fun g' hn => by
    rcases worth_mono (regs := regs) (ins := ins) rfl rfl hl (leqM_refl _) (leqM_refl _) hup g' with e | e
    · exact absurd e hn
    · exact e.symm
  refine ⟨by simp [h.len], fun x hx => ?_, fun u hu hf => ?_, fun j g' hj hn => ?_, fun j g' hj he hn => ?_, fun j hj => ?_⟩
  · rcases List.mem_or_eq_of_mem_set hx with e | e
    · exact h.good x e
    · rw [e]; exact worth_good hr hi h.good g
  · have hb := h.below u hu hf
    refine leqM_of_val (by simp [h.len, hu]) fun j hj => ?_
    rw [hs j]; split
    · rename_i e
      rcases worth_mono (regs := regs) (ins := ins) rfl rfl (by rw [h.len, hu]) (leqM_refl _) (leqM_refl _) hb g with e2 | e2
      · exact absurd e2 hx
      · right; rw [e2]
        have hj2 : gs[j]? = some g := by rw [← hg]; congr 1; omega
        have := next_val (regs := regs) (ins := ins) (v := u) hj2
        rw [hf] at this; exact this.symm
    · exact leqM_val (by rw [h.len, hu]) hb j
  · rw [hs j] at hn ⊢
    split
    · rename_i e
      have hj2 : gs[k.toNat]? = some g' := by rw [← hj]; congr 1; omega
      rw [hg] at hj2; injection hj2 with hj2; subst hj2
      exact hsame g hx
    · rename_i e
      rw [if_neg e] at hn
      have ha := h.asc j g' hj hn
      rw [hsame g' (by rw [ha]; exact hn), ha]
  · rw [hs j] at he
    split at he
    · exact absurd he hx
    · rename_i e
      have hn' : (j : Int) ∉ work ∧ (j : Int) ∉ useI (usersM gs) k := by
        exact ⟨fun x => hn (by simp [x]), fun x => hn (by simp [x])⟩
      have hw := h.wait j g' hj he (fun x => by
        rcases List.mem_cons.1 x with x | x
        · exact e x
        · exact hn'.1 x)
      rw [← hw]
      symm
      refine worth_other fun a ha => ?_
      have hak : a ≠ k := fun x => hn'.2 ((mem_users ok h0).2 ⟨j, g', hj, rfl, by rw [← x]; exact ha⟩)
      have ha0 := (ok g' (List.mem_of_getElem? hj) a ha).1
      have := hs a.toNat
      rw [show ((a.toNat : Nat) : Int) = a from by omega] at this
      rw [this, if_neg hak]
  · rcases List.mem_append.1 hj with e | e
    · exact h.ws j (by simp [e])
    · obtain ⟨i, g', hi', rfl, _⟩ := (mem_users ok h0).1 e
      have := (List.getElem?_eq_some_iff.1 hi').1
      omega
/-- What the gates that are not yet settled may still bring. -/
def costV : List (List Int) → List Int → Nat
  | q :: u, x :: v => (if x = 2 then q.length else 0) + costV u v
  | _, _ => 0
theorem costV_set : ∀ (u : List (List Int)) (v : List Int) (k : Nat) (q : List Int) (x : Int), u[k]? = some q → v[k]? = some 2 → x ≠ 2 → costV u (v.set k x) + q.length = costV u v
  | [], _, k, q, _, h, _, _ => by simp at h
  | y :: u, [], k, q, _, _, h, _ => by simp at h
  | y :: u, b :: v, 0, q, x, h, h2, hx => by simp at h h2; subst h; subst h2; simp [costV, hx]; omega
  | y :: u, b :: v, k + 1, q, x, h, h2, hx => by
    have := costV_set u v k q x (by simpa using h) (by simpa using h2) hx
    simp [costV]; omega
theorem costV_le : ∀ (u : List (List Int)) (v : List Int), costV u v ≤ totalU u
  | [], _ => by simp [costV]
  | q :: u, [] => by simp [costV]
  | q :: u, x :: v => by
    have := costV_le u v
    simp only [costV, totalU, List.map_cons, List.sum_cons] at *
    split <;> omega
/-! the law EvalTrue -/
end Go.Proofs.Ytlafiddfplhafaa
/- Levels, in plain Lean: the order by counts of what lacks, and the order by flags, are the same; what is told along an order is what is settled. No program in sight. -/
namespace Go.Proofs.Ytlafiddfplhafaa
set_option linter.unusedVariables false
set_option linter.unusedSimpArgs false
/-- All of args are done. -/
def argsDone (o : List Bool) (g : GateM) : Bool := g.args.all (onI o)
/-- The first gate from k on that is ready. -/
def readyFrom : List GateM → Nat → List Bool → Int
  | [], _, _ => -1
  | g :: l, k, o => if !onI o k && argsDone o g then (k : Int) else readyFrom l (k + 1) o
def readyM (gs : List GateM) (o : List Bool) : Int := readyFrom gs 0 o
def orderFrom (gs : List GateM) : Nat → List Bool → List Int → Option (List Int)
  | 0, _, out => some out
  | n + 1, o, out => if readyM gs o < 0 then none else orderFrom gs n (o.set (readyM gs o).toNat true) (out ++ [readyM gs o])
def orderM (gs : List GateM) : Option (List Int) := orderFrom gs gs.length (List.replicate gs.length false) []
/-! counts of what lacks -/
def lacksG (o : List Bool) (g : GateM) : Int := (g.args.countP (fun a => !onI o a) : Nat)
def lackFrom : List GateM → Nat → List Bool → List Int
  | [], _, _ => []
  | g :: l, k, o => (if onI o k then -1 else lacksG o g) :: lackFrom l (k + 1) o
def lackM (gs : List GateM) (o : List Bool) : List Int := lackFrom gs 0 o
def decAll (L : List Int) (l : List Int) : List Int := l.foldl (fun L k => L.modify k.toNat (· - 1)) L
def zeroAt : List Int → Int → Int
  | [], _ => -1
  | x :: l, k => if x = 0 then k else zeroAt l (k + 1)
theorem lackFrom_len (l : List GateM) : ∀ k o, (lackFrom l k o).length = l.length := by
  induction l with
  | nil => intro k o; rfl
  | cons g l ih => intro k o; simp [lackFrom, ih]
theorem lackFrom_at (l : List GateM) (o : List Bool) : ∀ (k j : Nat) (g : GateM), l[j]? = some g → (lackFrom l k o)[j]? = some (if onI o ((k + j : Nat) : Int) then -1 else lacksG o g) := by
  induction l with
  | nil => intro k j g h; simp at h
  | cons x l ih =>
    intro k j g h
    cases j with
    | zero => simp at h; subst h; simp [lackFrom]
    | succ j => simp only [lackFrom, List.getElem?_cons_succ]; rw [ih (k + 1) j g (by simpa using h), show k + 1 + j = k + (j + 1) from by omega]
theorem lackM_at {gs : List GateM} {o : List Bool} {j : Nat} {g : GateM} (h : gs[j]? = some g) : (lackM gs o)[j]? = some (if onI o j then -1 else lacksG o g) := by
  have := lackFrom_at gs o 0 j g h; simpa [lackM] using this
theorem lacks_zero (o : List Bool) (g : GateM) : (lacksG o g = 0) = (argsDone o g = true) := by
  unfold lacksG argsDone
  rw [eq_iff_iff]
  constructor
  · intro h
    have h0 : g.args.countP (fun a => !onI o a) = 0 := by omega
    rw [List.countP_eq_zero] at h0
    rw [List.all_eq_true]
    exact fun a ha => by have := h0 a ha; simpa using this
  · intro h
    rw [List.all_eq_true] at h
    have h0 : g.args.countP (fun a => !onI o a) = 0 := by
      rw [List.countP_eq_zero]; exact fun a ha => by simp [h a ha]
    omega
theorem zeroAt_lack (l : List GateM) (o : List Bool) : ∀ k : Nat, zeroAt (lackFrom l k o) k = readyFrom l k o := by
  induction l with
  | nil => intro k; rfl
  | cons g l ih =>
    intro k
    have h1 := ih (k + 1)
    simp only [lackFrom, zeroAt, readyFrom]
    rw [show ((k : Int) + 1) = ((k + 1 : Nat) : Int) from by omega, h1]
    cases e : onI o k with
    | true => simp
    | false =>
      simp only [Bool.false_eq_true, if_false, Bool.not_false, Bool.true_and]
      have := lacks_zero o g
      by_cases h : argsDone o g = true
      · rw [if_pos (by rw [this]; exact h), if_pos h]
      · rw [if_neg (by rw [this]; exact h), if_neg h]
theorem zeroAt_lackM (gs : List GateM) (o : List Bool) : zeroAt (lackM gs o) 0 = readyM gs o := zeroAt_lack gs o 0
theorem readyFrom_spec (gs : List GateM) (o : List Bool) (l : List GateM) : ∀ k : Nat, gs.drop k = l → readyFrom l k o = -1 ∨
    ∃ (j : Nat) (g : GateM), readyFrom l k o = (j : Int) ∧ k ≤ j ∧ gs[j]? = some g ∧ onI o j = false ∧ argsDone o g = true := by
  induction l with
  | nil => intro k _; exact .inl rfl
  | cons g l ih =>
    intro k hd
    have hk : gs[k]? = some g := by
      have : (gs.drop k)[0]? = some g := by rw [hd]; rfl
      simpa using this
    have hd' : gs.drop (k + 1) = l := by rw [← List.drop_drop, hd]; rfl
    simp only [readyFrom]
    by_cases h : (!onI o k && argsDone o g) = true
    · rw [if_pos h]
      simp only [Bool.and_eq_true, Bool.not_eq_true'] at h
      exact .inr ⟨k, g, rfl, Nat.le_refl _, hk, h.1, h.2⟩
    · rw [if_neg h]
      rcases ih (k + 1) hd' with e | ⟨j, x, h1, h2, h3⟩
      · exact .inl e
      · exact .inr ⟨j, x, h1, by omega, h3⟩
theorem readyM_spec (gs : List GateM) (o : List Bool) : readyM gs o = -1 ∨ ∃ (j : Nat) (g : GateM), readyM gs o = (j : Int) ∧ gs[j]? = some g ∧ onI o j = false ∧ argsDone o g = true := by
  rcases readyFrom_spec gs o gs 0 rfl with e | ⟨j, g, h1, _, h3⟩
  · exact .inl e
  · exact .inr ⟨j, g, h1, h3⟩
/-- If a gate is ready, the first that is ready is one. -/
theorem readyFrom_some (gs : List GateM) (o : List Bool) (l : List GateM) : ∀ (k j : Nat) (g : GateM), l[j]? = some g → onI o ((k + j : Nat) : Int) = false → argsDone o g = true → 0 ≤ readyFrom l k o := by
  induction l with
  | nil => intro k j g h; simp at h
  | cons x l ih =>
    intro k j g h h1 h2
    simp only [readyFrom]
    by_cases hx : (!onI o k && argsDone o x) = true
    · rw [if_pos hx]; omega
    · rw [if_neg hx]
      cases j with
      | zero => simp at h h1; subst h; simp [h1, h2] at hx
      | succ j => exact ih (k + 1) j g (by simpa using h) (by rw [show k + 1 + j = k + (j + 1) from by omega]; exact h1) h2
theorem count_addUses (k j b : Int) (hb : 0 ≤ b) (args : List Int) : ∀ u : List (List Int), (∀ a ∈ args, 0 ≤ a ∧ a < u.length) → (useI (addUses u k args) b).count j = (useI u b).count j + if j = k then args.count b else 0 := by
  induction args with
  | nil => intro u _; simp [addUses]
  | cons a l ih =>
    intro u h
    have ha := h a (by simp)
    have h2 := ih (u.modify a.toNat (· ++ [k])) (fun x hx => by simpa using h x (by simp [hx]))
    simp only [addUses, List.foldl_cons] at h2 ⊢
    rw [h2, useI_modify u a b k ha.1 hb]
    by_cases e : a = b
    · subst e; rw [if_pos ⟨rfl, ha.2⟩, List.count_append, List.count_cons, List.count_cons]
      by_cases hj : j = k
      · subst hj; simp; omega
      · have hj' : ¬ k = j := fun x => hj x.symm
        simp [hj, hj']
    · rw [if_neg (fun x => e x.1), List.count_cons]; simp [e]
theorem count_usersFrom {gs : List GateM} (j b : Int) (hb : 0 ≤ b) (ok : okArgs gs) (l : List GateM) : ∀ (k : Nat) (u : List (List Int)), gs.drop k = l → u.length = gs.length →
    (useI (usersFrom l k u) b).count j = (useI u b).count j + if (k : Int) ≤ j then ((l[(j - k).toNat]?.map (·.args)).getD []).count b else 0 := by
  induction l with
  | nil => intro k u _ _; simp [usersFrom]
  | cons g l ih =>
    intro k u hd hu
    have hk : gs[k]? = some g := by
      have : (gs.drop k)[0]? = some g := by rw [hd]; rfl
      simpa using this
    have hd' : gs.drop (k + 1) = l := by rw [← List.drop_drop, hd]; rfl
    simp only [usersFrom]
    rw [ih (k + 1) _ hd' (by rw [addUses_len, hu]), count_addUses k j b hb g.args u (by rw [hu]; exact ok g (List.mem_of_getElem? hk))]
    by_cases e : j = k
    · subst e; rw [if_pos rfl, if_neg (by omega), if_pos (by omega)]; simp
    · rw [if_neg e]
      by_cases h : (k : Int) ≤ j
      · rw [if_pos (by omega), if_pos h, show (j - k).toNat = (j - ((k + 1 : Nat) : Int)).toNat + 1 from by omega]; simp
      · rw [if_neg (by omega), if_neg h]
theorem count_users {gs : List GateM} (ok : okArgs gs) {b : Int} (hb : 0 ≤ b) (j : Nat) : (useI (usersM gs) b).count (j : Int) = (argsI gs j).count b := by
  unfold usersM
  rw [count_usersFrom j b hb ok gs 0 _ rfl (by simp), if_pos (by omega)]
  have : useI (List.replicate gs.length ([] : List Int)) b = [] := by unfold useI; rw [List.getElem?_replicate]; split <;> rfl
  simp [this, argsI]
theorem decAll_len (l : List Int) : ∀ L, (decAll L l).length = L.length := by
  induction l with
  | nil => intro L; rfl
  | cons a l ih => intro L; simp only [decAll, List.foldl_cons] at *; rw [ih]; simp
theorem decAll_at (l : List Int) (h0 : ∀ a ∈ l, 0 ≤ a) : ∀ (L : List Int) (j : Nat) (x : Int), L[j]? = some x → (decAll L l)[j]? = some (x - (l.count (j : Int) : Nat)) := by
  induction l with
  | nil => intro L j x h; simp [decAll, h]
  | cons a l ih =>
    intro L j x h
    have ha := h0 a (by simp)
    have ih' := ih (fun y hy => h0 y (by simp [hy]))
    simp only [decAll, List.foldl_cons] at *
    by_cases e : a = j
    · subst e
      rw [ih' (L.modify (j : Int).toNat (· - 1)) j (x - 1) (by simp [h])]
      simp; omega
    · have : ¬ a.toNat = j := by omega
      rw [ih' (L.modify a.toNat (· - 1)) j x (by simp [h, this])]
      rw [List.count_cons]; simp [e]
theorem countP_set {o : List Bool} {k : Int} (h0 : 0 ≤ k) (h1 : k < o.length) (hk : onI o k = false) (l : List Int) (hl : ∀ a ∈ l, 0 ≤ a) :
    l.countP (fun a => !onI o a) = l.countP (fun a => !onI (o.set k.toNat true) a) + l.count k := by
  induction l with
  | nil => rfl
  | cons a l ih =>
    have ih := ih (fun x hx => hl x (by simp [hx]))
    have hs := onI_set o k a h0 h1 (hl a (by simp))
    rw [List.countP_cons, List.countP_cons, List.count_cons, hs, ih]
    by_cases e : a = k
    · subst e; simp [hk]; omega
    · simp [e]; omega
/-- One more is done: the counts that the loop leaves. -/
theorem lack_step {gs : List GateM} {o : List Bool} {k : Nat} {g : GateM} (ok : okArgs gs) (ho : o.length = gs.length) (hg : gs[k]? = some g) (hk : onI o k = false) (hd : argsDone o g = true)
    (hc : ∀ (j : Nat) (x : GateM), gs[j]? = some x → onI o j = true → argsDone o x = true) :
    decAll ((lackM gs o).set k (-1)) (useI (usersM gs) k) = lackM gs (o.set k true) := by
  have hkl : k < gs.length := (List.getElem?_eq_some_iff.1 hg).1
  have hu : ∀ a ∈ useI (usersM gs) (k : Int), 0 ≤ a := fun a ha => by
    obtain ⟨i, _, _, rfl, _⟩ := (mem_users ok (by omega)).1 ha; omega
  refine List.ext_getElem? fun j => ?_
  rcases Nat.lt_or_ge j gs.length with hj | hj
  · have hgj := List.getElem?_eq_getElem hj
    generalize gs[j] = x at hgj
    have hlj := lackM_at (o := o) hgj
    have hon := onI_set o k j (by omega) (by omega) (by omega)
    rw [Int.toNat_natCast] at hon
    rw [lackM_at hgj, hon]
    have hcnt : (useI (usersM gs) k).count (j : Int) = x.args.count (k : Int) := by rw [count_users ok (by omega)]; simp [argsI, hgj]
    by_cases e : j = k
    · subst e
      rw [hg] at hgj; injection hgj with hgj; subst hgj
      rw [decAll_at _ hu _ j (-1) (by rw [List.getElem?_set]; simp [lackM, lackFrom_len, hkl]), hcnt]
      have : g.args.count (j : Int) = 0 := by
        rw [List.count_eq_zero]; intro hm
        unfold argsDone at hd; rw [List.all_eq_true] at hd
        rw [hd _ hm] at hk; cases hk
      rw [this]; simp
    · have e' : ¬ (j : Int) = (k : Int) := by omega
      rw [decAll_at _ hu _ j _ (by rw [List.getElem?_set, if_neg (fun x => e x.symm), hlj]), hcnt]
      simp only [e', decide_false, Bool.or_false]
      cases hoj : onI o j with
      | true =>
        have := hc j x hgj hoj
        have h0 : x.args.count (k : Int) = 0 := by
          rw [List.count_eq_zero]; intro hm
          unfold argsDone at this; rw [List.all_eq_true] at this
          rw [this _ hm] at hk; cases hk
        simp [h0]
      | false =>
        simp only [Bool.false_eq_true, if_false]
        have := countP_set (o := o) (k := (k : Int)) (by omega) (by omega) hk x.args (fun a ha => (ok x (List.mem_of_getElem? hgj) a ha).1)
        rw [Int.toNat_natCast] at this
        unfold lacksG; congr 1; omega
  · rw [List.getElem?_eq_none (by rw [decAll_len]; simp [lackM, lackFrom_len]; omega), List.getElem?_eq_none (by simp [lackM, lackFrom_len]; omega)]
/-! along an order -/
/-- What is done is done with its args. -/
def ClosedD (gs : List GateM) (o : List Bool) : Prop := ∀ (j : Nat) (x : GateM), gs[j]? = some x → onI o j = true → argsDone o x = true
/-- An order of what is left. -/
def OrdM (gs : List GateM) : List Bool → List Int → Prop
  | _, [] => True
  | o, k :: l => 0 ≤ k ∧ (∃ g, gs[k.toNat]? = some g ∧ onI o k = false ∧ argsDone o g = true) ∧ OrdM gs (o.set k.toNat true) l
theorem argsDone_set {o : List Bool} {k : Nat} {x : GateM} (h : argsDone o x = true) : argsDone (o.set k true) x = true := by
  unfold argsDone at *; rw [List.all_eq_true] at *
  exact fun a ha => subB_at _ (subB_set o k) (h a ha)
theorem closed_step {gs : List GateM} {o : List Bool} {k : Nat} {g : GateM} (hc : ClosedD gs o) (ho : o.length = gs.length) (hg : gs[k]? = some g) (hd : argsDone o g = true) : ClosedD gs (o.set k true) := by
  intro j x hj hon
  by_cases e : j = k
  · subst e; rw [hg] at hj; injection hj with hj; subst hj; exact argsDone_set hd
  · refine argsDone_set (hc j x hj ?_)
    have := onI_set o k j (by omega) (by have := (List.getElem?_eq_some_iff.1 hg).1; omega) (by omega)
    rw [Int.toNat_natCast] at this
    rw [this] at hon
    have e' : ¬ (j : Int) = (k : Int) := by omega
    simpa [e'] using hon
theorem closed_none (gs : List GateM) (n : Nat) : ClosedD gs (List.replicate n false) := fun j x _ h => by rw [onI_none] at h; cases h
theorem orderFrom_ord (gs : List GateM) (n : Nat) : ∀ (o : List Bool) (out l : List Int), orderFrom gs n o out = some l → ∃ r, l = out ++ r ∧ r.length = n ∧ OrdM gs o r := by
  induction n with
  | zero => intro o out l h; simp [orderFrom] at h; exact ⟨[], by simp [h], rfl, trivial⟩
  | succ n ih =>
    intro o out l h
    simp only [orderFrom] at h
    split at h
    · cases h
    · rename_i hr
      obtain ⟨r, h1, h2, h3⟩ := ih _ _ _ h
      rcases readyM_spec gs o with e | ⟨j, g, e1, e2, e3, e4⟩
      · omega
      · refine ⟨readyM gs o :: r, by simp [h1], by simp [h2], by omega, ⟨g, ?_, ?_, e4⟩, h3⟩
        · rw [e1]; simpa using e2
        · rw [e1]; exact e3
theorem orderM_ord {gs : List GateM} {l : List Int} (h : orderM gs = some l) : l.length = gs.length ∧ OrdM gs (List.replicate gs.length false) l := by
  obtain ⟨r, h1, h2, h3⟩ := orderFrom_ord _ _ _ _ _ h
  simp at h1; subst h1; exact ⟨h2, h3⟩
theorem cnt_set {o : List Bool} : ∀ {k : Nat}, o[k]? = some false → cnt (o.set k true) = cnt o + 1 := by
  induction o with
  | nil => intro k h; simp at h
  | cons x o ih =>
    intro k h
    cases k with
    | zero => simp at h; subst h; simp [cnt]
    | succ k => have := ih (k := k) (by simpa using h); simp only [cnt, List.set_cons_succ, List.countP_cons] at *; omega
theorem off_some {o : List Bool} {k : Int} (h : onI o k = false) (hl : k.toNat < o.length) : o[k.toNat]? = some false := by
  unfold onI at h; rw [List.getElem?_eq_getElem hl] at h ⊢; simpa using h
/-- Where an order ends, all are done. -/
theorem OrdM.all {gs : List GateM} : ∀ {l : List Int} {o : List Bool}, OrdM gs o l → o.length = gs.length → ∃ o' : List Bool, o' = l.foldl (fun o k => o.set k.toNat true) o ∧ o'.length = gs.length ∧ cnt o' = cnt o + l.length
  | [], o, _, ho => ⟨o, rfl, ho, rfl⟩
  | k :: l, o, h, ho => by
    obtain ⟨h0, ⟨g, hg, hon, _⟩, h3⟩ := h
    have hk : k.toNat < o.length := by have := (List.getElem?_eq_some_iff.1 hg).1; omega
    obtain ⟨o', h1, h2, h4⟩ := OrdM.all h3 (by simp [ho])
    exact ⟨o', by simpa using h1, h2, by rw [h4, cnt_set (off_some hon hk)]; simp; omega⟩
theorem all_on {o : List Bool} (h : cnt o = o.length) (k : Nat) (hk : k < o.length) : onI o k = true := by
  have := List.countP_eq_length.1 h o[k] (List.getElem_mem hk)
  simpa [onI, List.getElem?_eq_getElem hk] using this
/-! what is told along an order -/
/-- Where there is an order, nothing else solves. -/
theorem order_agree {gs : List GateM} {regs ins u v : List Int} (ok : okArgs gs) (hu : u.length = gs.length) (hv : v.length = gs.length) (fu : nextV gs regs ins u = u) (fv : nextV gs regs ins v = v) : ∀ (l : List Int) (o : List Bool), OrdM gs o l → o.length = gs.length →
    (∀ j : Nat, j < gs.length → onI o j = true → valI u j = valI v j) → ∀ j : Nat, j < gs.length → onI (l.foldl (fun o k => o.set k.toNat true) o) j = true → valI u j = valI v j
  | [], _, _, _, h => h
  | k :: l, o, hO, ho, h => by
    obtain ⟨h0, ⟨g, hg, hon, hd⟩, h3⟩ := hO
    have hkl := (List.getElem?_eq_some_iff.1 hg).1
    refine order_agree ok hu hv fu fv l _ h3 (by simp [ho]) (fun j hj hoj => ?_)
    have hon' := onI_set o k j h0 (by omega) (by omega)
    rw [hon'] at hoj
    by_cases e : (j : Int) = k
    · have : j = k.toNat := by omega
      subst this
      have e1 := next_val (regs := regs) (ins := ins) (v := u) hg
      have e2 := next_val (regs := regs) (ins := ins) (v := v) hg
      rw [fu] at e1; rw [fv] at e2
      rw [e1, e2]
      refine worth_other fun a ha => ?_
      have ha0 := ok g (List.mem_of_getElem? hg) a ha
      unfold argsDone at hd; rw [List.all_eq_true] at hd
      have h4 := h a.toNat (by omega)
      rw [show ((a.toNat : Nat) : Int) = a from by omega] at h4
      exact h4 (hd a ha)
    · exact h j hj (by simpa [e] using hoj)
theorem order_one {gs : List GateM} {regs ins u v l : List Int} (ok : okArgs gs) (h : orderM gs = some l) (hu : u.length = gs.length) (hv : v.length = gs.length) (fu : nextV gs regs ins u = u) (fv : nextV gs regs ins v = v) : u = v := by
  obtain ⟨hl, hO⟩ := orderM_ord h
  obtain ⟨o', h1, h2, h3⟩ := OrdM.all hO (by simp)
  have hz : cnt (List.replicate gs.length false) = 0 := by simp [cnt]
  refine val_ext (by rw [hu, hv]) fun j hj => ?_
  refine order_agree ok hu hv fu fv l _ hO (by simp) (fun j _ h => by rw [onI_none] at h; cases h) j (by omega) ?_
  rw [← h1]
  exact all_on (by omega) j (by omega)
theorem notM_shut {x : Int} (h : x = 0 ∨ x = 1) : notM x ≠ 2 := by rcases h with rfl | rfl <;> decide
theorem val_shut {l : List Int} (h : (2 : Int) ∉ l) (k : Int) : valI l k ≠ 2 := by
  unfold valI
  cases e : l[k.toNat]? with
  | none => simp
  | some x => intro e2; simp at e2; subst e2; exact h (List.mem_of_getElem? e)
theorem worth_shut {regs ins v : List Int} {g : GateM} (hr : (2 : Int) ∉ regs) (hi : (2 : Int) ∉ ins) (hv : ∀ a ∈ g.args, valI v a = 0 ∨ valI v a = 1) : worthM regs ins v g ≠ 2 := by
  unfold worthM
  split
  · decide
  split
  · decide
  split
  · exact val_shut hi _
  split
  · exact val_shut hr _
  have hm : (2 : Int) ∉ g.args.map (valI v) := fun hm => by
    obtain ⟨a, ha, e⟩ := List.mem_map.1 hm
    rcases hv a ha with h | h <;> omega
  unfold ofM
  split
  · rw [gatherM_eq 0 (by decide), if_neg hm]; split <;> decide
  split
  · rw [gatherM_eq 1 (by decide), if_neg hm]; split <;> decide
  · cases hg : g.args with
    | nil => exact notM_shut (.inl rfl)
    | cons a l => exact notM_shut (hv a (by rw [hg]; simp))
theorem order_shut_on {gs : List GateM} {regs ins v : List Int} (ok : okArgs gs) (gr : goodL regs) (gi : goodL ins) (gv : goodL v) (hr : (2 : Int) ∉ regs) (hi : (2 : Int) ∉ ins) (fv : nextV gs regs ins v = v) : ∀ (l : List Int) (o : List Bool), OrdM gs o l → o.length = gs.length →
    (∀ j : Nat, j < gs.length → onI o j = true → valI v j ≠ 2) → ∀ j : Nat, j < gs.length → onI (l.foldl (fun o k => o.set k.toNat true) o) j = true → valI v j ≠ 2
  | [], _, _, _, h => h
  | k :: l, o, hO, ho, h => by
    obtain ⟨h0, ⟨g, hg, hon, hd⟩, h3⟩ := hO
    have hkl := (List.getElem?_eq_some_iff.1 hg).1
    refine order_shut_on ok gr gi gv hr hi fv l _ h3 (by simp [ho]) (fun j hj hoj => ?_)
    rw [onI_set o k j h0 (by omega) (by omega)] at hoj
    by_cases e : (j : Int) = k
    · have : j = k.toNat := by omega
      subst this
      have e1 := next_val (regs := regs) (ins := ins) (v := v) hg
      rw [fv] at e1
      rw [e1]
      refine worth_shut hr hi fun a ha => ?_
      have ha0 := ok g (List.mem_of_getElem? hg) a ha
      unfold argsDone at hd; rw [List.all_eq_true] at hd
      have h4 := h a.toNat (by omega)
      rw [show ((a.toNat : Nat) : Int) = a from by omega] at h4
      have h5 := h4 (hd a ha)
      rcases valI_good gv a with h6 | h6 | h6
      · exact .inl h6
      · exact .inr h6
      · exact absurd h6 h5
    · exact h j hj (by simpa [e] using hoj)
/-- Where there is an order, nothing is open if nothing that is handed in is. -/
theorem order_shut {gs : List GateM} {regs ins l : List Int} (ok : okArgs gs) (h : orderM gs = some l) (gr : goodL regs) (gi : goodL ins) (hr : (2 : Int) ∉ regs) (hi : (2 : Int) ∉ ins) : (2 : Int) ∉ settledM gs regs ins := by
  obtain ⟨hl, hO⟩ := orderM_ord h
  obtain ⟨o', h1, h2, h3⟩ := OrdM.all hO (by simp)
  have hz : cnt (List.replicate gs.length false) = 0 := by simp [cnt]
  intro hm
  obtain ⟨j, hj⟩ := List.mem_iff_getElem?.1 hm
  have hjl := (List.getElem?_eq_some_iff.1 hj).1
  rw [settled_len] at hjl
  refine order_shut_on ok gr gi (settled_good gr gi) hr hi (settled_least _ _ _).fix l _ hO (by simp) (fun j _ h => by rw [onI_none] at h; cases h) j hjl ?_ (by simp [valI, hj])
  rw [← h1]
  exact all_on (by omega) j (by omega)
/-- Where each gate's args stand ahead of it, there is an order. -/
theorem order_of_ahead {gs : List GateM} (h : ∀ (k : Nat) (g : GateM), gs[k]? = some g → ∀ a ∈ g.args, 0 ≤ a ∧ a < k) : ∀ (n : Nat) (o : List Bool) (out : List Int), o.length = gs.length → cnt o + n = gs.length → ∃ l, orderFrom gs n o out = some l
  | 0, o, out, _, _ => ⟨out, rfl⟩
  | n + 1, o, out, ho, hc => by
    have hex : ∃ j : Nat, j < gs.length ∧ onI o j = false ∧ ∀ i : Nat, i < j → onI o i = true := by
      have : ∀ m : Nat, m ≤ gs.length → (∀ i : Nat, i < m → onI o i = true) ∨ ∃ j : Nat, j < gs.length ∧ onI o j = false ∧ ∀ i : Nat, i < j → onI o i = true := by
        intro m
        induction m with
        | zero => exact fun _ => .inl fun i hi => by omega
        | succ m ih =>
          intro hm
          rcases ih (by omega) with e | e
          · cases hb : onI o m with
            | false => exact .inr ⟨m, by omega, hb, e⟩
            | true =>
              refine .inl fun i hi => ?_
              rcases Nat.lt_or_ge i m with h1 | h1
              · exact e i h1
              · have : i = m := by omega
                subst this; exact hb
          · exact .inr e
      rcases this gs.length (Nat.le_refl _) with e | e
      · have : cnt o = o.length := List.countP_eq_length.2 fun b hb => by
          obtain ⟨i, hi⟩ := List.mem_iff_getElem?.1 hb
          have hil := (List.getElem?_eq_some_iff.1 hi).1
          have := e i (by omega)
          simpa [onI, hi] using this
        omega
      · exact e
    obtain ⟨j, hj, hoff, hlow⟩ := hex
    have hg := List.getElem?_eq_getElem hj
    have hr : 0 ≤ readyM gs o := readyFrom_some gs o gs 0 j _ hg (by simpa using hoff) (by
      unfold argsDone; rw [List.all_eq_true]; intro a ha
      have := h j _ hg a ha
      have h2 := hlow a.toNat (by omega)
      rwa [show ((a.toNat : Nat) : Int) = a from by omega] at h2)
    simp only [orderFrom]
    rw [if_neg (by omega)]
    refine order_of_ahead h n _ _ (by simp [ho]) ?_
    rcases readyM_spec gs o with e | ⟨i, g, e1, e2, e3, e4⟩
    · omega
    · have hil := (List.getElem?_eq_some_iff.1 e2).1
      rw [e1, Int.toNat_natCast, cnt_set (by have := off_some e3 (by simpa [ho] using hil); simpa using this)]
      omega
end Go.Proofs.Ytlafiddfplhafaa
/- Instants of nets, in plain Lean. No Go in sight. -/
namespace Go.Proofs.Ytlafiddfplhafaa
set_option linter.unusedVariables false
set_option linter.unusedSimpArgs false
def pickM (v l : List Int) : List Int := l.map (valI v)
def turnN (N : NetM) (regs ins : List Int) : Option (List Int × List Int) :=
  if (settledM N.gates regs ins).contains 2 then none else some (pickM (settledM N.gates regs ins) N.outs, pickM (settledM N.gates regs ins) (nextsM N))
def bitsM (x : Int) : Nat → List Int
  | 0 => []
  | n + 1 => x % 2 :: bitsM (x / 2) n
def runFrom (N : NetM) : List Int → List Int → Option (List (List Int) × List Int)
  | r, [] => some ([], r)
  | r, x :: l => (turnN N r (bitsM x N.ins.toNat)).bind fun o => (runFrom N o.2 l).map fun q => (o.1 :: q.1, q.2)
def badTime (ins : Nat) (x : Int) : Bool := decide (x < 0) || decide (2 ^ ins ≤ x)
def timesM (l : List Int) (ins : Nat) : Int := if 60 < l.length then 2 else if l.any (badTime ins) then 3 else 0
def runE (N : NetM) (l : List Int) : Int :=
  if checkN N ≠ 0 then checkN N else if timesM l N.ins.toNat ≠ 0 then timesM l N.ins.toNat else if (runFrom N (firstM N) l).isNone then 6 else 0
def runV (N : NetM) (l : List Int) : List (List Int) × List Int := if runE N l = 0 then (runFrom N (firstM N) l).getD ([], []) else ([], [])
theorem runFrom_snoc (N : NetM) (x : Int) : ∀ (l r : List Int), runFrom N r (l ++ [x]) = (runFrom N r l).bind fun q => (turnN N q.2 (bitsM x N.ins.toNat)).map fun o => (q.1 ++ [o.1], o.2)
  | [], r => by
    simp only [List.nil_append, runFrom, Option.bind_some]
    cases turnN N r (bitsM x N.ins.toNat) <;> rfl
  | y :: l, r => by
    simp only [List.cons_append, runFrom]
    cases turnN N r (bitsM y N.ins.toNat) with
    | none => rfl
    | some o =>
      simp only [Option.bind_some]
      rw [runFrom_snoc N x l o.2]
      cases runFrom N o.2 l with
      | none => rfl
      | some q =>
        simp only [Option.bind_some, Option.map_some]
        cases turnN N q.2 (bitsM x N.ins.toNat) <;> rfl
theorem bits_len (x : Int) (n : Nat) : (bitsM x n).length = n := by
  induction n generalizing x with
  | zero => rfl
  | succ n ih => simp [bitsM, ih]
theorem bits_good (x : Int) (n : Nat) : ∀ y ∈ bitsM x n, y = 0 ∨ y = 1 := by
  induction n generalizing x with
  | zero => simp [bitsM]
  | succ n ih =>
    intro y hy
    rcases List.mem_cons.1 hy with e | e
    · omega
    · exact ih _ y e
theorem bits_at (x : Int) : ∀ (n k : Nat), k < n → (bitsM x n)[k]? = some (x / 2 ^ k % 2)
  | 0, k, h => by omega
  | n + 1, 0, _ => by simp [bitsM]
  | n + 1, k + 1, h => by
    simp only [bitsM, List.getElem?_cons_succ]
    rw [bits_at (x / 2) n k (by omega), Int.ediv_ediv_of_nonneg (by decide), Int.pow_succ, Int.mul_comm]
/-! right nets -/
structure NetOK (N : NetM) : Prop where
  ins0 : 0 ≤ N.ins
  ins3 : N.ins ≤ 3
  gl : N.gates.length ≤ 200
  rl : N.regs.length ≤ 20
  ol : N.outs.length ≤ 3
  al : ∀ g ∈ N.gates, g.args.length ≤ 16
  named : ∀ k ∈ namedM N, 0 ≤ k ∧ k < N.gates.length
  kinds : ∀ g ∈ N.gates, 0 ≤ g.kind ∧ g.kind ≤ 6
  form : ∀ g ∈ N.gates, formM N g = true
theorem checkN_ok {N : NetM} (h : checkN N = 0) : NetOK N := by
  unfold checkN at h
  cases h1 : tooMany N with
  | true => rw [h1] at h; simp at h
  | false =>
  rw [h1, if_neg (by simp)] at h
  cases h2 : N.gates.any manyA with
  | true => rw [h2] at h; simp at h
  | false =>
  rw [h2, if_neg (by simp)] at h
  by_cases h3 : N.ins < 0
  · rw [if_pos h3] at h; cases h
  rw [if_neg h3] at h
  cases h4 : (namedM N).any (badPlace N.gates.length) with
  | true => rw [h4] at h; simp at h
  | false =>
  rw [h4, if_neg (by simp)] at h
  cases h5 : N.gates.any badGK with
  | true => rw [h5] at h; simp at h
  | false =>
  rw [h5, if_neg (by simp)] at h
  cases h6 : N.gates.all (formM N) with
  | false => rw [h6] at h; simp at h
  | true =>
  simp only [tooMany, Bool.or_eq_false_iff, decide_eq_false_iff_not] at h1
  refine ⟨by omega, by omega, by omega, by omega, by omega, fun g hg => ?_, fun k hk => ?_, fun g hg => ?_, fun g hg => List.all_eq_true.1 h6 g hg⟩
  · have := List.any_eq_false.1 h2 g hg; simp [manyA] at this; omega
  · have := List.any_eq_false.1 h4 k hk; simp [badPlace] at this; omega
  · have := List.any_eq_false.1 h5 g hg; simp [badGK] at this; omega
theorem NetOK.check {N : NetM} (h : NetOK N) : checkN N = 0 := by
  have h1 : tooMany N = false := by
    have := h.ins3; have := h.gl; have := h.rl; have := h.ol
    simp only [tooMany, Bool.or_eq_false_iff, decide_eq_false_iff_not]; omega
  have h2 : N.gates.any manyA = false := List.any_eq_false.2 fun g hg => by have := h.al g hg; simp [manyA]; omega
  have h3 : ¬ N.ins < 0 := by have := h.ins0; omega
  have h4 : (namedM N).any (badPlace N.gates.length) = false := List.any_eq_false.2 fun k hk => by have := h.named k hk; simp [badPlace]; omega
  have h5 : N.gates.any badGK = false := List.any_eq_false.2 fun g hg => by have := h.kinds g hg; simp [badGK]; omega
  have h6 : N.gates.all (formM N) = true := List.all_eq_true.2 h.form
  simp [checkN, h1, h2, h3, h4, h5, h6]
theorem NetOK.args {N : NetM} (h : NetOK N) : okArgs N.gates := fun g hg a ha => h.named a (by
  unfold namedM; rw [List.mem_append]; right; exact List.mem_flatMap.2 ⟨g, hg, ha⟩)
theorem NetOK.outs {N : NetM} (h : NetOK N) : inR N.gates.length N.outs := fun a ha => h.named a (by simp [namedM, ha])
theorem NetOK.nexts {N : NetM} (h : NetOK N) : inR N.gates.length (nextsM N) := fun a ha => h.named a (by
  unfold nextsM at ha; unfold namedM; simp only [List.mem_append]; exact .inl (.inr ha))
theorem first_good (N : NetM) : ∀ x ∈ firstM N, x = 0 ∨ x = 1 := fun x hx => by
  obtain ⟨r, _, rfl⟩ := List.mem_map.1 hx
  split <;> simp
theorem good01 {l : List Int} (h : ∀ x ∈ l, x = 0 ∨ x = 1) : goodL l ∧ (2 : Int) ∉ l :=
  ⟨fun x hx => by rcases h x hx with e | e <;> simp [e], fun hm => by rcases h 2 hm with e | e <;> cases e⟩
theorem turnN_good {N : NetM} {regs ins : List Int} {o : List Int × List Int} (hr : goodL regs) (hi : goodL ins) (h : turnN N regs ins = some o) : (∀ x ∈ o.1, x = 0 ∨ x = 1) ∧ ∀ x ∈ o.2, x = 0 ∨ x = 1 := by
  unfold turnN at h
  split at h
  · cases h
  · rename_i hc
    have hc : (2 : Int) ∉ settledM N.gates regs ins := by simpa using hc
    have hv := settled_good (gs := N.gates) hr hi
    have key : ∀ k, valI (settledM N.gates regs ins) k = 0 ∨ valI (settledM N.gates regs ins) k = 1 := fun k => by
      have := val_shut hc k
      rcases valI_good hv k with e | e | e
      · exact .inl e
      · exact .inr e
      · exact absurd e this
    injection h with h; subst h
    exact ⟨fun x hx => by obtain ⟨k, _, rfl⟩ := List.mem_map.1 hx; exact key k, fun x hx => by obtain ⟨k, _, rfl⟩ := List.mem_map.1 hx; exact key k⟩
theorem turnN_len {N : NetM} {regs ins : List Int} {o : List Int × List Int} (h : turnN N regs ins = some o) : o.1.length = N.outs.length ∧ o.2.length = N.regs.length := by
  unfold turnN at h
  split at h
  · cases h
  · injection h with h; subst h; simp [pickM, nextsM]
theorem runFrom_good {N : NetM} : ∀ {l r : List Int} {q : List (List Int) × List Int}, (∀ x ∈ r, x = 0 ∨ x = 1) → r.length = N.regs.length → runFrom N r l = some q →
    (∀ x ∈ q.2, x = 0 ∨ x = 1) ∧ q.2.length = N.regs.length ∧ ∀ row ∈ q.1, row.length = N.outs.length ∧ ∀ x ∈ row, x = 0 ∨ x = 1
  | [], r, q, hr, hl, h => by simp [runFrom] at h; subst h; exact ⟨hr, hl, by simp⟩
  | x :: l, r, q, hr, hl, h => by
    simp only [runFrom, Option.bind_eq_some_iff, Option.map_eq_some_iff] at h
    obtain ⟨o, h1, q', h2, rfl⟩ := h
    have g := turnN_good (good01 hr).1 (good01 (bits_good _ _)).1 h1
    have gl := turnN_len h1
    obtain ⟨k1, k2, k3⟩ := runFrom_good g.2 gl.2 h2
    refine ⟨k1, k2, fun row hrow => ?_⟩
    rcases List.mem_cons.1 hrow with e | e
    · rw [e]; exact ⟨gl.1, g.1⟩
    · exact k3 row e
end Go.Proofs.Ytlafiddfplhafaa
/- Right gates; what Step and Solves tell, as one value. No program in sight. -/
namespace Go.Proofs.Ytlafiddfplhafaa
set_option linter.unusedVariables false
set_option linter.unusedSimpArgs false
/-- A gate of a right net: gn gates, rn registers, jn inputs. -/
structure GateR (gn rn jn : Nat) (g : GateM) : Prop where
  kind : 0 ≤ g.kind ∧ g.kind ≤ 6
  args : ∀ a ∈ g.args, 0 ≤ a ∧ a < gn
  al : g.args.length ≤ 16
  inp : g.kind = 2 → 0 ≤ g.num ∧ g.num < jn
  reg : g.kind = 3 → 0 ≤ g.num ∧ g.num < rn
  one : g.kind = 6 → g.args.length = 1
  none : g.kind ≤ 3 → g.args.length = 0
theorem NetOK.gate {N : NetM} (ok : NetOK N) {g : GateM} (hg : g ∈ N.gates) : GateR N.gates.length N.regs.length N.ins.toNat g := by
  have hf := ok.form g hg
  have hk := ok.kinds g hg
  simp only [formM, Bool.and_eq_true, decide_eq_true_eq] at hf
  obtain ⟨⟨h1, h2⟩, h3⟩ := hf
  refine ⟨hk, fun a ha => ok.named a (List.mem_append_right _ (List.mem_flatMap.2 ⟨g, hg, ha⟩)), ok.al g hg, fun e => ?_, fun e => ?_, fun e => ?_, fun e => ?_⟩
  · rw [if_pos e] at h3; have := ok.ins0; omega
  · rw [if_neg (by omega), if_pos e] at h3; omega
  · rw [if_neg (by omega), if_pos e] at h1; simpa using h1
  · rw [if_neg (by omega), if_neg (by omega)] at h1; simpa using h1
def askedM (N : NetM) (regs ins : List Int) : Int :=
  if checkN N ≠ 0 then checkN N else if regs.length ≠ N.regs.length ∨ (ins.length : Int) ≠ N.ins then 1 else if regs.any bad3 then 3 else if ins.any bad3 then 3 else 0
structure AskedOK (N : NetM) (regs ins : List Int) : Prop where
  net : NetOK N
  rl : regs.length = N.regs.length
  il : (ins.length : Int) = N.ins
  rg : goodL regs
  ig : goodL ins
theorem askedM_ok {N : NetM} {regs ins : List Int} (h : askedM N regs ins = 0) : AskedOK N regs ins := by
  unfold askedM at h
  by_cases h0 : checkN N = 0
  · rw [if_neg (by simp [h0])] at h
    split at h
    · cases h
    rename_i h1
    split at h
    · cases h
    rename_i h2
    split at h
    · cases h
    rename_i h3
    simp only [not_or, ne_eq, Decidable.not_not] at h1
    exact ⟨checkN_ok h0, h1.1, h1.2, goodL_of (by simpa using h2), goodL_of (by simpa using h3)⟩
  · rw [if_pos h0] at h; exact absurd h h0
end Go.Proofs.Ytlafiddfplhafaa
/- A row of rows of numbers, all of the call's own. No program in sight. -/
namespace Go.Proofs.Ytlafiddfplhafaa
set_option linter.unusedVariables false
set_option linter.unusedSimpArgs false
open Go.RowKit
structure Rows2 (E T : TypeId) (w : World) (base g0 n : Nat) (U : List (List Int)) (vs : List Value) : Prop where
  row : w.ownsRow base E 1 (.slice (some ⟨g0, 0, none⟩) n n) n vs
  len : U.length = n
  own : ∀ (k : Nat) v u, vs[k]? = some v → U[k]? = some u → w.ownsRow base T 1 v u.length (u.map I)
  off : ∀ (k : Nat) v, vs[k]? = some v → v.ownBlock ≠ some g0
  apart : ∀ (j k : Nat) v v', vs[j]? = some v → vs[k]? = some v' → j ≠ k → v.ownBlock = none ∨ v.ownBlock ≠ v'.ownBlock
section
variable {E T : TypeId} {w w' : World} {base g0 n : Nat} {U : List (List Int)} {vs : List Value}
theorem Rows2.vl (h : Rows2 E T w base g0 n U vs) : vs.length = n := by have := h.row.1; omega
theorem Rows2.start (w : World) (hb : base ≤ w.heap.size) (hm : n ≤ maxLen) (g0 : Nat) (hg0 : g0 = w.heap.size) : Rows2 E T (w.alloc (.cells (zeros (.slice none 0 0) n) E)) base g0 n (List.replicate n []) (List.replicate n (.slice none 0 0)) := by
  subst hg0
  refine ⟨own_made w E _ n base hb hm, by simp, fun k v u hv hu => ?_, fun k v hv => ?_, fun j k v v' hv _ _ => ?_⟩
  · rw [List.getElem?_replicate] at hv hu
    split at hv
    · rename_i hk
      rw [if_pos hk] at hu
      injection hv with hv; injection hu with hu
      subst hv; subst hu
      exact World.ownsRow_nil _ _ _ _
    · cases hv
  · rw [List.getElem?_replicate] at hv
    split at hv
    · injection hv with hv; subst hv; simp [Value.ownBlock]
    · cases hv
  · rw [List.getElem?_replicate] at hv
    split at hv
    · injection hv with hv; subst hv; exact .inl rfl
    · cases hv
theorem Rows2.ext (h : Rows2 E T w base g0 n U vs) (hx : Ext w w') : Rows2 E T w' base g0 n U vs :=
  ⟨own_ext h.row hx, h.len, fun k v u hv hu => own_ext (h.own k v u hv hu) hx, h.off, h.apart⟩
theorem Rows2.base_le {base' : Nat} (h : Rows2 E T w base g0 n U vs) (hb : base' ≤ base) : Rows2 E T w base' g0 n U vs :=
  ⟨own_base h.row hb, h.len, fun k v u hv hu => own_base (h.own k v u hv hu) hb, h.off, h.apart⟩
theorem Rows2.get (h : Rows2 E T w base g0 n U vs) {k : Nat} (hk : k < n) : ∃ v u, vs[k]? = some v ∧ U[k]? = some u ∧ w.cell? ⟨g0, k, none⟩ = some v ∧ w.frozen? ⟨g0, k, none⟩ = false ∧ w.ownsRow base T 1 v u.length (u.map I) ∧ base ≤ g0 := by
  obtain ⟨⟨v, h1, h2⟩, h3, h4⟩ := own_at h.row hk
  have hlt : k < U.length := by rw [h.len]; exact hk
  have hu : U[k]? = some U[k] := List.getElem?_eq_getElem hlt
  exact ⟨v, _, h1, hu, h2, h3, h.own k v _ h1 hu, h4⟩
/-- One more number in one of the rows. -/
theorem Rows2.step (h : Rows2 E T w base g0 n U vs) {a : Nat} {v v' : Value} {u : List Int} {x : Int} (hv : vs[a]? = some v) (hu : U[a]? = some u)
    (hown : w'.ownsRow base T 1 v' (u.length + 1) (u.map I ++ [I x])) (hg : w.grownBy w' v.ownBlock) (hf : ∀ k, v'.ownBlock = some k → v.ownBlock = some k ∨ w.heap.size ≤ k) :
    Rows2 E T (w'.setCell ⟨g0, a, none⟩ v') base g0 n (U.modify a (· ++ [x])) (vs.set a v') := by
  have hal : a < vs.length := (List.getElem?_eq_some_iff.1 hv).1
  have hau : a < U.length := (List.getElem?_eq_some_iff.1 hu).1
  have hv' : v'.ownBlock ≠ some g0 := fun e => by
    rcases hf g0 e with q | q
    · exact h.off a v hv q
    · have := (h.row.lt g0 rfl).2; omega
  have hrow : w'.ownsRow base E 1 (.slice (some ⟨g0, 0, none⟩) n n) n vs := h.row.kept hg (.inr (fun e => h.off a v hv e.symm))
  refine ⟨(hrow.stored a v').1, by simp [h.len], fun k y z hy hz => ?_, fun k y hy => ?_, fun j k y y' hy hy' hne => ?_⟩
  · by_cases e : a = k
    · subst e
      rw [List.getElem?_set_self hal] at hy
      injection hy with hy; subst hy
      rw [List.getElem?_modify_eq, hu] at hz
      injection hz with hz; subst hz
      have := own_other (g := g0) (j := a) (u := v') hown hv'
      simpa using this
    · rw [List.getElem?_set_ne e] at hy
      rw [List.getElem?_modify] at hz; simp only [if_neg e] at hz; have hz : U[k]? = some z := by simpa using hz
      have h1 := h.own k y z hy hz
      have h2 := h1.kept hg (h.apart k a y v hy hv (fun q => e q.symm))
      exact own_other h2 (h.off k y hy)
  · by_cases e : a = k
    · subst e
      rw [List.getElem?_set_self hal] at hy
      injection hy with hy; subst hy; exact hv'
    · rw [List.getElem?_set_ne e] at hy; exact h.off k y hy
  · by_cases e : a = j
    · subst e
      rw [List.getElem?_set_self hal] at hy
      injection hy with hy; subst hy
      rw [List.getElem?_set_ne hne] at hy'
      cases hb : v'.ownBlock with
      | none => exact .inl rfl
      | some b =>
        right
        intro q
        rcases hf b hb with q2 | q2
        · rcases h.apart a k v y' hv hy' hne with q3 | q3
          · rw [q3] at q2; cases q2
          · exact q3 (q2.trans q)
        · cases hz : U[k]? with
          | none => have := (List.getElem?_eq_some_iff.1 hy').1; have := List.getElem?_eq_none_iff.1 hz; have := h.len; have := h.vl; omega
          | some z => have := ((h.own k y' z hy' hz).lt b q.symm).2; omega
    · rw [List.getElem?_set_ne e] at hy
      by_cases e2 : a = k
      · subst e2
        rw [List.getElem?_set_self hal] at hy'
        injection hy' with hy'; subst hy'
        cases hb : y.ownBlock with
        | none => exact .inl rfl
        | some b =>
          right
          intro q
          rcases hf b q.symm with q2 | q2
          · rcases h.apart j a y v hy hv hne with q3 | q3
            · rw [q3] at hb; cases hb
            · exact q3 (hb.trans q2.symm)
          · cases hz : U[j]? with
            | none => have := (List.getElem?_eq_some_iff.1 hy).1; have := List.getElem?_eq_none_iff.1 hz; have := h.len; have := h.vl; omega
            | some z => have := ((h.own j y z hy hz).lt b hb).2; omega
      · rw [List.getElem?_set_ne e2] at hy'
        exact h.apart j k y y' hy hy' hne
end
theorem len_le_total {U : List (List Int)} : ∀ {k : Nat} {u : List Int}, U[k]? = some u → u.length ≤ totalU U := by
  induction U with
  | nil => intro k u h; simp at h
  | cons x U ih =>
    intro k u h
    simp only [totalU, List.map_cons, List.sum_cons]
    cases k with
    | zero => simp at h; subst h; omega
    | succ k => have := ih (by simpa using h); simp only [totalU] at this; omega
end Go.Proofs.Ytlafiddfplhafaa
/- The functions of three values (package tern, and the reference): each walked once. -/
namespace Go.Proofs.Ytlafiddfplhafaa
set_option linter.unusedVariables false
set_option linter.unusedSimpArgs false
open Go.RowKit
/-! gather -/
theorem gather_any (A : Option Addr) (n c : Nat) (xs : List Int) (rules none : Int) (w : World) (h : Sl w A n (xs.map I)) (hn : n ≤ maxLen) :
    Calls Try.prog 102 #[.slice A n c, I rules, I none] w fun e w' => e = .returned (I (gatherM rules xs none)) ∧ w = w' := by
  unfold maxLen at hn
  have H := Lib.hid h; clear h
  go_enter Try.func102, Try.ntmps102
  go_wp2
  go_loop [7, 13] (fun o i => ∃ (k : Nat) (out : Int), k ≤ n ∧ i = .int .i64 k ∧ o = .int .i64 out ∧ gatherM rules (xs.drop k) out = gatherM rules xs none) (fun _ i => n - (intOf i).toNat)
  case atStart => exact ⟨0, none, Nat.zero_le _, rfl, rfl, rfl⟩
  case round =>
    obtain ⟨k, out, hk, rfl, rfl, hM⟩ := hrel
    by_cases hlt : k < n
    · obtain ⟨b, off, x, rfl, hc, hd⟩ := H.out.next hlt
      rw [hd, gatherM] at hM
      have HM := Lib.hid hM; clear hM hd
      go_wp2
      · have hx : (x == rules) = true := by assumption
        go_ret; exact ⟨ret_int (by rw [← HM.out, if_pos (by simpa using hx)]), rfl⟩
      all_goals
        rename_i h1 h2
        have hx : ¬ x = rules := by simpa using h1
        go_round
        case rel => exact ⟨k + 1, _, by omega, by go_num, rfl, by rw [← HM.out, if_neg hx]; simp_all⟩
        case measure => simp [intOf]; omega
    · rw [H.out.drop_end hlt] at hM
      have HM := Lib.hid hM; clear hM
      go_wp2
      go_ret; exact ⟨ret_int HM.out, rfl⟩
/-! IndexFunc, ContainsFunc, Check -/
/-- What a function value answers of one number, in world w, nothing turned. -/
def Asks (P : Program) (g : FuncId) (caps : Array Value) (w : World) (q : Int → Bool) : Prop :=
  (∀ args W, (callFunc g args).run P W = .ok (.enter g args) W) ∧ ∀ x, Calls P g (#[I x] ++ caps) w fun e w' => e = .returned (.bool (q x)) ∧ w = w'
theorem indexFunc_any (A : Option Addr) (n c : Nat) (xs : List Int) (g : FuncId) (caps : Array Value) (q : Int → Bool) (w : World) (h : Sl w A n (xs.map I)) (hn : n ≤ maxLen) (hq : Asks Try.prog g caps w q) :
    Calls Try.prog 92 #[.slice A n c, .func (.func g) #[] caps] w fun e w' => e = .returned (I (indexM q xs 0)) ∧ w = w' := by
  unfold maxLen at hn
  have H := Lib.hid h; clear h
  have HQ := Lib.hid hq; clear hq
  go_enter Try.func92, Try.ntmps92
  go_wp2
  go_loop [8] (fun i => ∃ (k : Nat), k ≤ n ∧ i = .int .i64 k ∧ indexM q (xs.drop k) k = indexM q xs 0) (fun i => n - (intOf i).toNat)
  case atStart => exact ⟨0, Nat.zero_le _, rfl, rfl⟩
  case round =>
    obtain ⟨k, hk, rfl, hM⟩ := hrel
    by_cases hlt : k < n
    · obtain ⟨b, off, x, rfl, hc, hd⟩ := H.out.next hlt
      rw [hd, indexM] at hM
      have HM := Lib.hid hM; clear hM hd
      have hcf := HQ.out.1
      by_cases hqx : q x = true
      all_goals
        go_wp2_with (refine (HQ.out.2 x).mono ?_; rintro e w' ⟨rfl, rfl⟩)
      · go_ret; exact ⟨ret_int (by rw [← HM.out, if_pos hqx]), rfl⟩
      · go_round
        case rel => exact ⟨k + 1, by omega, by go_num, by rw [← HM.out, if_neg hqx]; simp⟩
        case measure => simp [intOf]; omega
    · rw [H.out.drop_end hlt, indexM] at hM
      have HM := Lib.hid hM; clear hM
      go_wp2
      go_ret; exact ⟨ret_int HM.out, rfl⟩
theorem containsFunc_any (A : Option Addr) (n c : Nat) (xs : List Int) (g : FuncId) (caps : Array Value) (q : Int → Bool) (w : World) (h : Sl w A n (xs.map I)) (hn : n ≤ maxLen) (hq : Asks Try.prog g caps w q) :
    Calls Try.prog 64 #[.slice A n c, .func (.func g) #[] caps] w fun e w' => e = .returned (.bool (xs.any q)) ∧ w = w' := by
  have H := Lib.hid h; clear h
  have HQ := Lib.hid hq; clear hq
  have HM := Lib.hid (indexM_lo q xs 0 (Int.le_refl _))
  go_enter Try.func64, Try.ntmps64
  go_wp2_with (go_at_call 92; refine (indexFunc_any A n c xs g caps q w H.out hn HQ.out).mono ?_; rintro e w' ⟨rfl, rfl⟩)
  go_ret; exact ⟨ret_bool HM.out, rfl⟩
theorem ofAll_any (A : Option Addr) (n c : Nat) (xs : List Int) (w : World) (h : Sl w A n (xs.map I)) (hn : n ≤ maxLen) :
    Calls Try.prog 101 #[I 4, .slice A n c] w fun e w' => e = .returned (I (ofM 4 xs)) ∧ w = w' := by
  have H := Lib.hid h; clear h
  go_enter Try.func101, Try.ntmps101
  go_wp2_with (go_at_call 102; refine (gather_any A n c xs _ _ w H.out hn).mono ?_; rintro e w' ⟨rfl, rfl⟩)
  go_ret; exact ⟨rfl, rfl⟩
theorem ofAny_any (A : Option Addr) (n c : Nat) (xs : List Int) (w : World) (h : Sl w A n (xs.map I)) (hn : n ≤ maxLen) :
    Calls Try.prog 101 #[I 5, .slice A n c] w fun e w' => e = .returned (I (ofM 5 xs)) ∧ w = w' := by
  have H := Lib.hid h; clear h
  go_enter Try.func101, Try.ntmps101
  go_wp2_with (go_at_call 102; refine (gather_any A n c xs _ _ w H.out hn).mono ?_; rintro e w' ⟨rfl, rfl⟩)
  go_ret; exact ⟨rfl, rfl⟩
theorem ofNot_any (A : Option Addr) (n c : Nat) (x : Int) (xs : List Int) (w : World) (h : Sl w A n ((x :: xs).map I)) (hn : n ≤ maxLen) (hx : bad3 x = false) :
    Calls Try.prog 101 #[I 6, .slice A n c] w fun e w' => e = .returned (I (ofM 6 (x :: xs))) ∧ w = w' := by
  have hlen : 0 < n := by have := h.len; simp at this; omega
  obtain ⟨b, off, y, rfl, hc, hy⟩ := h.at_ hlen
  simp at hy; subst hy
  have hc0 : w.cell? ⟨b, off, none⟩ = some (I x) := hc
  have H := Lib.hid h; clear h hc
  have hx3 : x = 0 ∨ x = 1 ∨ x = 2 := by simp [bad3] at hx; omega
  clear hx
  have i0 : ∀ w, (Instr.index 166 (.agg #[.int .i64 1, .int .i64 0, .int .i64 2]) (.int .i64 0)).run Try.prog w = .ok (.int .i64 1) w := fun _ => by kernel_rfl
  have i1 : ∀ w, (Instr.index 166 (.agg #[.int .i64 1, .int .i64 0, .int .i64 2]) (.int .i64 1)).run Try.prog w = .ok (.int .i64 0) w := fun _ => by kernel_rfl
  have i2 : ∀ w, (Instr.index 166 (.agg #[.int .i64 1, .int .i64 0, .int .i64 2]) (.int .i64 2)).run Try.prog w = .ok (.int .i64 2) w := fun _ => by kernel_rfl
  rcases hx3 with rfl | rfl | rfl
  all_goals
    go_enter Try.func101, Try.ntmps101
    go_wp2
    go_ret; exact ⟨rfl, rfl⟩
/-! the reference -/
end Go.Proofs.Ytlafiddfplhafaa
/- SameBools, SameInts: are two lists the same. -/
namespace Go.Proofs.Ytlafiddfplhafaa
set_option linter.unusedVariables false
set_option linter.unusedSimpArgs false
open Go.RowKit
def sameM {α : Type} [DecidableEq α] : List α → List α → Bool
  | x :: a, y :: b => decide (x = y) && sameM a b
  | _, _ => true
theorem sameM_eq {α : Type} [DecidableEq α] : ∀ a b : List α, a.length = b.length → sameM a b = decide (a = b)
  | [], [], _ => by simp [sameM]
  | [], _ :: _, h => by simp at h
  | _ :: _, [], h => by simp at h
  | x :: a, y :: b, h => by
    rw [sameM, sameM_eq a b (by simpa using h), Bool.eq_iff_iff]; simp
set_option maxHeartbeats 1000000 in
theorem sameInts_eq (A B : Option Addr) (n c d : Nat) (xs ys : List Int) (w : World) (h : Sl w A n (xs.map I)) (h' : Sl w B n (ys.map I)) (hn : n ≤ maxLen) :
    Calls Try.prog 36 #[.slice A n c, .slice B n d] w fun e w' => e = .returned (.bool (sameM xs ys)) ∧ ∃ m, w' = w.drewN m := by
  unfold maxLen at hn
  have H := Lib.hid h; clear h
  have H' := Lib.hid h'; clear h'
  go_enter Try.func36, Try.ntmps36
  go_wp2
  go_loopw [5] (fun i wr => ∃ (k m : Nat), k ≤ n ∧ i = .int .i64 k ∧ wr = w.drewN m ∧ sameM (xs.drop k) (ys.drop k) = sameM xs ys) (fun i _ => n - (intOf i).toNat)
  case atStart => exact ⟨0, 0, Nat.zero_le _, rfl, rfl, rfl⟩
  case round =>
    obtain ⟨k, m, hk, rfl, rfl, hM⟩ := hrel
    by_cases hlt : k < n
    · obtain ⟨b, off, x, rfl, hc, hd⟩ := H.out.next hlt
      obtain ⟨b', off', y, rfl, hc', hd'⟩ := H'.out.next hlt
      rw [hd, hd', sameM] at hM
      have HM := Lib.hid hM; clear hM hd hd'
      by_cases hxy : x = y
      · have g3 : (x != y) = false := by simpa using hxy
        have H3 := Lib.hid hxy; clear hxy
        go_wp2_with fail
        go_quiet (fail)
        go_wp2
        go_roundw
        case rel => exact ⟨k + 1, _, by omega, by go_num, rfl, by rw [← HM.out]; simp [H3.out]⟩
        case measure => simp [intOf]; omega
      · have g3 : (x != y) = true := by simpa using hxy
        have H3 := Lib.hid hxy; clear hxy
        go_wp2_with fail
        go_quiet (fail)
        go_wp2
        go_ret; exact ⟨ret_bool (by rw [← HM.out]; simp [H3.out]), _, World.drewN_drewN _ _ _⟩
    · have hE : sameM ([] : List Int) (ys.drop k) = true := by cases ys.drop k <;> rfl
      rw [H.out.drop_end hlt, hE] at hM
      have HM := Lib.hid hM; clear hM hE
      go_wp2
      go_ret; exact ⟨ret_bool HM.out, _, rfl⟩
theorem sameInts_any (A B : Option Addr) (n m c d : Nat) (xs ys : List Int) (w : World) (h : Sl w A n (xs.map I)) (h' : Sl w B m (ys.map I)) (hn : n ≤ maxLen) (hm : m ≤ maxLen) :
    Calls Try.prog 36 #[.slice A n c, .slice B m d] w fun e w' => e = .returned (.bool (decide (xs = ys))) ∧ ∃ m, w' = w.drewN m := by
  by_cases hnm : n = m
  · subst hnm
    rw [← sameM_eq xs ys (by rw [h.len, h'.len])]
    exact sameInts_eq A B n c d xs ys w h h' hn
  · have hf : decide (xs = ys) = false := by
      simp; rintro rfl; exact hnm (h.len.symm.trans h'.len)
    rw [hf]
    have g : ((n : Int) != (m : Int)) = true := by simp; omega
    have H := Lib.hid h; have H' := Lib.hid h'; have HN := Lib.hid hnm
    clear h h' hnm hf
    go_enter Try.func36, Try.ntmps36
    go_wp2
    go_ret; exact ⟨rfl, 0, rfl⟩
end Go.Proofs.Ytlafiddfplhafaa
