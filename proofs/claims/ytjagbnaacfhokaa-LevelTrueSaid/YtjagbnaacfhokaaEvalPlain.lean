/- What is settled, in plain Lean: rounds and the work list tell the same, the least that solves. No program in sight. -/
import Derived.Test.YtjagbnaacfhokaaNetPlain
import Derived.Test.YtjagbnaacfhokaaTernPlain
namespace Go.Proofs.Ytjagbnaacfhokaa
set_option linter.unusedVariables false
set_option linter.unusedSimpArgs false

def valI (v : List Int) (k : Int) : Int := v[k.toNat]?.getD 0
def worthM (regs ins v : List Int) (g : GateM) : Int :=
  if g.kind = 0 then 0 else if g.kind = 1 then 1 else if g.kind = 2 then valI ins g.num else if g.kind = 3 then valI regs g.num
  else ofM g.kind (g.args.map (valI v))
def nextV (gs : List GateM) (regs ins v : List Int) : List Int := gs.map (worthM regs ins v)
def itV (gs : List GateM) (regs ins : List Int) : Nat → List Int → List Int
  | 0, v => v
  | n + 1, v => itV gs regs ins n (nextV gs regs ins v)
def opensM (n : Nat) : List Int := List.replicate n 2
def settledM (gs : List GateM) (regs ins : List Int) : List Int := itV gs regs ins gs.length (opensM gs.length)
def goodL (l : List Int) : Prop := ∀ x ∈ l, x = 0 ∨ x = 1 ∨ x = 2
def leI (x y : Int) : Prop := x = 2 ∨ x = y

theorem goodL_of {l : List Int} (h : l.any bad3 = false) : goodL l := fun x hx => good3 (by have := List.any_eq_false.1 h x hx; simpa using this)
theorem goodL_any {l : List Int} (h : goodL l) : l.any bad3 = false := by
  rw [List.any_eq_false]; intro x hx
  rcases h x hx with rfl | rfl | rfl <;> decide
theorem leI.refl (x : Int) : leI x x := .inr rfl
theorem leI.trans {x y z : Int} (h : leI x y) (k : leI y z) : leI x z := by
  rcases h with h | rfl
  · exact .inl h
  · exact k
theorem leI.anti {x y : Int} (h : leI x y) (k : leI y x) : x = y := by
  rcases h with rfl | h
  · rcases k with h | h <;> omega
  · exact h

/-! leqM: as lists -/
theorem leqM_refl (a : List Int) : leqM a a = true := by
  induction a with
  | nil => rfl
  | cons x a ih => simp [leqM, ih]
theorem leqM_iff : ∀ {a b : List Int}, a.length = b.length → (leqM a b = true ↔ ∀ k : Nat, k < a.length → leI (a[k]?.getD 0) (b[k]?.getD 0))
  | [], [], _ => by simp [leqM]
  | [], y :: b, h => by simp at h
  | x :: a, [], h => by simp at h
  | x :: a, y :: b, h => by
    have ih := leqM_iff (a := a) (b := b) (by simpa using h)
    simp only [leqM, Bool.and_eq_true, Bool.or_eq_true, decide_eq_true_eq, ih]
    constructor
    · rintro ⟨h1, h2⟩ k hk
      cases k with
      | zero => simpa [leI] using h1
      | succ k => simpa using h2 k (by simpa using hk)
    · intro h2
      exact ⟨by simpa [leI] using h2 0 (by simp), fun k hk => by simpa using h2 (k + 1) (by simpa using hk)⟩
theorem leqM_val {a b : List Int} (hl : a.length = b.length) (h : leqM a b = true) (k : Int) : leI (valI a k) (valI b k) := by
  unfold valI
  rcases Nat.lt_or_ge k.toNat a.length with e | e
  · exact (leqM_iff hl).1 h _ e
  · rw [List.getElem?_eq_none e, List.getElem?_eq_none (by omega)]; exact leI.refl _
theorem leqM_of_val {a b : List Int} (hl : a.length = b.length) (h : ∀ k : Nat, k < a.length → leI (valI a k) (valI b k)) : leqM a b = true :=
  (leqM_iff hl).2 fun k hk => by have := h k hk; simpa [valI] using this
theorem leqM_trans {a b c : List Int} (h1 : a.length = b.length) (h2 : b.length = c.length) (h : leqM a b = true) (k : leqM b c = true) : leqM a c = true :=
  leqM_of_val (by omega) fun i _ => (leqM_val h1 h i).trans (leqM_val h2 k i)
theorem val_ext {a b : List Int} (hl : a.length = b.length) (h : ∀ k : Nat, k < a.length → valI a k = valI b k) : a = b := by
  apply List.ext_getElem hl
  intro i h1 h2
  have := h i h1
  simpa [valI, List.getElem?_eq_getElem h1, List.getElem?_eq_getElem h2] using this
theorem leqM_anti {a b : List Int} (hl : a.length = b.length) (h : leqM a b = true) (k : leqM b a = true) : a = b :=
  val_ext hl fun i _ => (leqM_val hl h i).anti (leqM_val hl.symm k i)
theorem leqM_opens (v : List Int) : leqM (opensM v.length) v = true := by
  refine leqM_of_val (by simp [opensM]) fun k hk => ?_
  left; simp only [opensM, List.length_replicate] at hk
  simp [valI, opensM, hk]

/-! gates -/
theorem leqM_map {v u : List Int} (hl : v.length = u.length) (h : leqM v u = true) (l : List Int) : leqM (l.map (valI v)) (l.map (valI u)) = true := by
  induction l with
  | nil => rfl
  | cons a l ih =>
    simp only [List.map_cons, leqM, ih, Bool.and_true, Bool.or_eq_true, decide_eq_true_eq]
    exact leqM_val hl h a
theorem worth_mono {regs regs' ins ins' v u : List Int} (hr : regs.length = regs'.length) (hi : ins.length = ins'.length) (hl : v.length = u.length)
    (h1 : leqM regs regs' = true) (h2 : leqM ins ins' = true) (h : leqM v u = true) (g : GateM) : leI (worthM regs ins v g) (worthM regs' ins' u g) := by
  unfold worthM
  split
  · exact leI.refl _
  split
  · exact leI.refl _
  split
  · exact leqM_val hi h2 _
  split
  · exact leqM_val hr h1 _
  have hm := leqM_map hl h g.args
  by_cases k4 : g.kind = 4
  · exact leq_of _ (.inl k4) _ _ (by simp) hm
  by_cases k5 : g.kind = 5
  · exact leq_of _ (.inr k5) _ _ (by simp) hm
  simp only [ofM, if_neg k4, if_neg k5]
  cases hg : g.args with
  | nil => exact leI.refl _
  | cons a l =>
    simp only [List.map_cons, List.headD_cons]
    rcases leqM_val hl h a with e | e
    · left; rw [e]; rfl
    · right; rw [e]
theorem next_len (gs : List GateM) (regs ins v : List Int) : (nextV gs regs ins v).length = gs.length := by simp [nextV]
theorem next_val {gs : List GateM} {regs ins v : List Int} {k : Nat} {g : GateM} (h : gs[k]? = some g) : valI (nextV gs regs ins v) k = worthM regs ins v g := by
  simp [valI, nextV, h]
theorem next_mono {gs : List GateM} {regs regs' ins ins' v u : List Int} (hr : regs.length = regs'.length) (hi : ins.length = ins'.length) (hl : v.length = u.length)
    (h1 : leqM regs regs' = true) (h2 : leqM ins ins' = true) (h : leqM v u = true) : leqM (nextV gs regs ins v) (nextV gs regs' ins' u) = true := by
  refine leqM_of_val (by simp [next_len]) fun k hk => ?_
  rw [next_len] at hk
  rw [next_val (List.getElem?_eq_getElem hk), next_val (List.getElem?_eq_getElem hk)]
  exact worth_mono hr hi hl h1 h2 h _
theorem valI_good {v : List Int} (h : goodL v) (k : Int) : valI v k = 0 ∨ valI v k = 1 ∨ valI v k = 2 := by
  unfold valI
  cases e : v[k.toNat]? with
  | none => left; rfl
  | some x => exact h x (List.mem_of_getElem? e)
theorem ofM_good {l : List Int} (hk : goodL l) (k : Int) : ofM k l = 0 ∨ ofM k l = 1 ∨ ofM k l = 2 := by
  unfold ofM
  split
  · rw [gatherM_eq 0 (by decide)]; repeat' split
    all_goals simp
  split
  · rw [gatherM_eq 1 (by decide)]; repeat' split
    all_goals simp
  · exact good3 (notM_good _)
theorem worth_good {regs ins v : List Int} (hr : goodL regs) (hi : goodL ins) (hv : goodL v) (g : GateM) : worthM regs ins v g = 0 ∨ worthM regs ins v g = 1 ∨ worthM regs ins v g = 2 := by
  unfold worthM
  split
  · simp
  split
  · simp
  split
  · exact valI_good hi _
  split
  · exact valI_good hr _
  refine ofM_good (fun x hx => ?_) _
  obtain ⟨a, _, rfl⟩ := List.mem_map.1 hx
  exact valI_good hv a
theorem next_good {gs : List GateM} {regs ins v : List Int} (hr : goodL regs) (hi : goodL ins) (hv : goodL v) : goodL (nextV gs regs ins v) := fun x hx => by
  obtain ⟨g, _, rfl⟩ := List.mem_map.1 hx
  exact worth_good hr hi hv g

/-! the least that solves -/
structure LeastV (gs : List GateM) (regs ins v : List Int) : Prop where
  len : v.length = gs.length
  fix : nextV gs regs ins v = v
  least : ∀ u : List Int, u.length = gs.length → nextV gs regs ins u = u → leqM v u = true
theorem LeastV.uniq {gs : List GateM} {regs ins v u : List Int} (h : LeastV gs regs ins v) (k : LeastV gs regs ins u) : v = u :=
  leqM_anti (by rw [h.len, k.len]) (h.least u k.len k.fix) (k.least v h.len h.fix)
def cntV (v : List Int) : Nat := v.countP (fun x => !decide (x = 2))
theorem cntV_le : ∀ {a b : List Int}, a.length = b.length → leqM a b = true → cntV a ≤ cntV b ∧ (cntV a = cntV b → a = b)
  | [], [], _, _ => ⟨Nat.le_refl _, fun _ => rfl⟩
  | [], y :: b, h, _ => by simp at h
  | x :: a, [], h, _ => by simp at h
  | x :: a, y :: b, h, k => by
    simp only [leqM, Bool.and_eq_true, Bool.or_eq_true, decide_eq_true_eq] at k
    obtain ⟨h1, h2⟩ := cntV_le (a := a) (b := b) (by simpa using h) k.2
    unfold cntV at *
    rcases k.1 with e | e
    · subst e
      by_cases hy : y = 2
      · subst hy; simp_all
      · simp [hy]; constructor <;> omega
    · subst e
      by_cases hx : x = 2
      · subst hx; simp_all
      · simp [hx]; exact ⟨h1, h2⟩
theorem cntV_max (v : List Int) : cntV v ≤ v.length := List.countP_le_length
/-- A state of the rounds: it grows, and says no more than whatever solves. -/
structure RoundV (gs : List GateM) (regs ins v : List Int) : Prop where
  len : v.length = gs.length
  up : leqM v (nextV gs regs ins v) = true
  below : ∀ u : List Int, u.length = gs.length → nextV gs regs ins u = u → leqM v u = true
theorem RoundV.start (gs : List GateM) (regs ins : List Int) : RoundV gs regs ins (opensM gs.length) :=
  ⟨by simp [opensM], by have := leqM_opens (nextV gs regs ins (opensM gs.length)); rwa [next_len] at this, fun u hu _ => by have := leqM_opens u; rwa [hu] at this⟩
theorem RoundV.next {gs : List GateM} {regs ins v : List Int} (h : RoundV gs regs ins v) : RoundV gs regs ins (nextV gs regs ins v) :=
  ⟨next_len _ _ _ _, next_mono rfl rfl (by rw [next_len, h.len]) (leqM_refl _) (leqM_refl _) h.up, fun u hu hf => by
    have := next_mono (gs := gs) (regs := regs) (ins := ins) rfl rfl (by rw [h.len, hu]) (leqM_refl _) (leqM_refl _) (h.below u hu hf)
    rwa [hf] at this⟩
theorem RoundV.more {gs : List GateM} {regs ins v : List Int} (h : RoundV gs regs ins v) (hn : nextV gs regs ins v ≠ v) : cntV v < cntV (nextV gs regs ins v) := by
  have h1 := cntV_le (by rw [next_len, h.len]) h.up
  rcases Nat.lt_or_ge (cntV v) (cntV (nextV gs regs ins v)) with e | e
  · exact e
  · exact absurd (h1.2 (by omega)).symm hn
theorem RoundV.done {gs : List GateM} {regs ins v : List Int} (h : RoundV gs regs ins v) (hf : nextV gs regs ins v = v) : LeastV gs regs ins v := ⟨h.len, hf, h.below⟩
theorem itV_fixed {gs : List GateM} {regs ins : List Int} (n : Nat) : ∀ {v : List Int}, nextV gs regs ins v = v → itV gs regs ins n v = v := by
  induction n with
  | zero => intro v _; rfl
  | succ n ih => intro v h; simp only [itV, h]; exact ih h
theorem itV_least {gs : List GateM} {regs ins : List Int} (n : Nat) : ∀ {v : List Int}, RoundV gs regs ins v → gs.length ≤ n + cntV v → LeastV gs regs ins (itV gs regs ins n v) := by
  induction n with
  | zero =>
    intro v h hn
    refine h.done ?_
    have h1 := cntV_le (by rw [next_len, h.len]) h.up
    have h2 := cntV_max (nextV gs regs ins v)
    rw [next_len] at h2
    exact (h1.2 (by omega)).symm
  | succ n ih =>
    intro v h hn
    by_cases e : nextV gs regs ins v = v
    · rw [itV_fixed _ e]; exact h.done e
    · exact ih h.next (by have := h.more e; omega)
theorem settled_least (gs : List GateM) (regs ins : List Int) : LeastV gs regs ins (settledM gs regs ins) := itV_least _ (RoundV.start gs regs ins) (by omega)
theorem settled_eq {gs : List GateM} {regs ins v : List Int} (h : RoundV gs regs ins v) (hf : nextV gs regs ins v = v) : v = settledM gs regs ins := (h.done hf).uniq (settled_least _ _ _)
theorem settled_len (gs : List GateM) (regs ins : List Int) : (settledM gs regs ins).length = gs.length := (settled_least gs regs ins).len
theorem itV_good {gs : List GateM} {regs ins : List Int} (hr : goodL regs) (hi : goodL ins) (n : Nat) : ∀ {v : List Int}, goodL v → goodL (itV gs regs ins n v) := by
  induction n with
  | zero => intro v h; exact h
  | succ n ih => intro v h; exact ih (next_good hr hi h)
theorem opens_good (n : Nat) : goodL (opensM n) := fun x hx => by rw [opensM, List.mem_replicate] at hx; exact .inr (.inr hx.2)
theorem settled_good {gs : List GateM} {regs ins : List Int} (hr : goodL regs) (hi : goodL ins) : goodL (settledM gs regs ins) := itV_good hr hi _ (opens_good _)
theorem itV_mono {gs : List GateM} {regs regs' ins ins' : List Int} (hr : regs.length = regs'.length) (hi : ins.length = ins'.length) (h1 : leqM regs regs' = true) (h2 : leqM ins ins' = true) (n : Nat) :
    ∀ {v u : List Int}, v.length = u.length → leqM v u = true → leqM (itV gs regs ins n v) (itV gs regs' ins' n u) = true := by
  induction n with
  | zero => intro v u _ h; exact h
  | succ n ih => intro v u hl h; exact ih (by simp [next_len]) (next_mono hr hi hl h1 h2 h)
theorem settled_mono {gs : List GateM} {regs regs' ins ins' : List Int} (hr : regs.length = regs'.length) (hi : ins.length = ins'.length) (h1 : leqM regs regs' = true) (h2 : leqM ins ins' = true) :
    leqM (settledM gs regs ins) (settledM gs regs' ins') = true := itV_mono hr hi h1 h2 _ rfl (leqM_refl _)

/-! the users of each gate -/
def addUses (u : List (List Int)) (k : Int) (args : List Int) : List (List Int) := args.foldl (fun u a => u.modify a.toNat (· ++ [k])) u
def usersFrom : List GateM → Nat → List (List Int) → List (List Int)
  | [], _, u => u
  | g :: l, k, u => usersFrom l (k + 1) (addUses u k g.args)
def usersM (gs : List GateM) : List (List Int) := usersFrom gs 0 (List.replicate gs.length [])
def useI (u : List (List Int)) (a : Int) : List Int := u[a.toNat]?.getD []
def totalU (u : List (List Int)) : Nat := (u.map List.length).sum
theorem addUses_len (k : Int) (args : List Int) : ∀ u, (addUses u k args).length = u.length := by
  induction args with
  | nil => intro u; rfl
  | cons a l ih => intro u; simp only [addUses, List.foldl_cons] at *; rw [ih]; simp
theorem usersFrom_len (l : List GateM) : ∀ k u, (usersFrom l k u).length = u.length := by
  induction l with
  | nil => intro k u; rfl
  | cons g l ih => intro k u; simp only [usersFrom]; rw [ih, addUses_len]
theorem useI_modify (u : List (List Int)) (a b k : Int) (ha : 0 ≤ a) (hb : 0 ≤ b) : useI (u.modify a.toNat (· ++ [k])) b = if a = b ∧ a < u.length then useI u b ++ [k] else useI u b := by
  unfold useI
  rw [List.getElem?_modify]
  by_cases e : a = b
  · subst e
    rcases Nat.lt_or_ge a.toNat u.length with h | h
    · rw [List.getElem?_eq_getElem h]; rw [if_pos ⟨rfl, by omega⟩]; simp
    · rw [List.getElem?_eq_none h]; rw [if_neg (by omega)]; simp
  · have : ¬ a.toNat = b.toNat := by omega
    simp [this, e]
theorem mem_addUses (k j b : Int) (hb : 0 ≤ b) (args : List Int) : ∀ u : List (List Int), (∀ a ∈ args, 0 ≤ a ∧ a < u.length) → (j ∈ useI (addUses u k args) b ↔ j ∈ useI u b ∨ (j = k ∧ b ∈ args)) := by
  induction args with
  | nil => intro u _; simp [addUses]
  | cons a l ih =>
    intro u h
    have ha := h a (by simp)
    have h2 := ih (u.modify a.toNat (· ++ [k])) (fun x hx => by simpa using h x (by simp [hx]))
    simp only [addUses, List.foldl_cons] at h2 ⊢
    rw [h2, useI_modify u a b k ha.1 hb]
    by_cases e : a = b
    · subst e; rw [if_pos ⟨rfl, ha.2⟩]; simp only [List.mem_append, List.mem_cons, List.not_mem_nil, or_false]
      constructor
      · rintro ((h | h) | h)
        · exact .inl h
        · exact .inr ⟨h, by simp⟩
        · exact .inr ⟨h.1, by simp⟩
      · rintro (h | h)
        · exact .inl (.inl h)
        · exact .inl (.inr h.1)
    · have e' : ¬ b = a := fun x => e x.symm
      rw [if_neg (fun x => e x.1)]; simp [e']
theorem mem_usersFrom {gs : List GateM} (j b : Int) (hb : 0 ≤ b) (ok : ∀ g ∈ gs, ∀ a ∈ g.args, 0 ≤ a ∧ a < gs.length) (l : List GateM) : ∀ (k : Nat) (u : List (List Int)), gs.drop k = l → u.length = gs.length →
    (j ∈ useI (usersFrom l k u) b ↔ j ∈ useI u b ∨ ∃ (i : Nat) (g : GateM), l[i]? = some g ∧ j = ((k + i : Nat) : Int) ∧ b ∈ g.args) := by
  induction l with
  | nil => intro k u _ _; simp [usersFrom]
  | cons g l ih =>
    intro k u hd hu
    have hk : gs[k]? = some g := by
      have : (gs.drop k)[0]? = some g := by rw [hd]; rfl
      simpa using this
    have hd' : gs.drop (k + 1) = l := by rw [← List.drop_drop, hd]; rfl
    simp only [usersFrom]
    rw [ih (k + 1) _ hd' (by rw [addUses_len, hu]), mem_addUses k j b hb g.args u (by rw [hu]; exact ok g (List.mem_of_getElem? hk))]
    constructor
    · rintro ((h | ⟨rfl, h⟩) | ⟨i, x, h1, h2, h3⟩)
      · exact .inl h
      · exact .inr ⟨0, g, rfl, by simp, h⟩
      · exact .inr ⟨i + 1, x, by simpa using h1, by rw [h2]; omega, h3⟩
    · rintro (h | ⟨i, x, h1, h2, h3⟩)
      · exact .inl (.inl h)
      · cases i with
        | zero => simp at h1; subst h1; exact .inl (.inr ⟨by simpa using h2, h3⟩)
        | succ i => exact .inr ⟨i, x, by simpa using h1, by rw [h2]; omega, h3⟩
theorem mem_users {gs : List GateM} (ok : ∀ g ∈ gs, ∀ a ∈ g.args, 0 ≤ a ∧ a < gs.length) {j b : Int} (hb : 0 ≤ b) :
    j ∈ useI (usersM gs) b ↔ ∃ (i : Nat) (g : GateM), gs[i]? = some g ∧ j = (i : Int) ∧ b ∈ g.args := by
  unfold usersM
  rw [mem_usersFrom j b hb ok gs 0 _ rfl (by simp)]
  have : j ∉ useI (List.replicate gs.length []) b := by unfold useI; rw [List.getElem?_replicate]; split <;> simp
  simp [this]
theorem total_modify (k : Int) : ∀ (u : List (List Int)) (i : Nat), totalU (u.modify i (· ++ [k])) ≤ totalU u + 1
  | [], i => by simp [totalU]
  | x :: u, 0 => by simp [totalU]; omega
  | x :: u, i + 1 => by have := total_modify k u i; simp [totalU] at *; omega
theorem total_add (k : Int) (args : List Int) : ∀ u, totalU (addUses u k args) ≤ totalU u + args.length := by
  induction args with
  | nil => intro u; simp [addUses]
  | cons a l ih =>
    intro u
    have h1 := ih (u.modify a.toNat (· ++ [k]))
    have h2 := total_modify k u a.toNat
    simp only [addUses, List.foldl_cons, List.length_cons] at *
    omega
theorem total_from (m : Nat) (l : List GateM) (h : ∀ g ∈ l, g.args.length ≤ m) : ∀ k u, totalU (usersFrom l k u) ≤ totalU u + l.length * m := by
  induction l with
  | nil => intro k u; simp [usersFrom]
  | cons g l ih =>
    intro k u
    have h1 := ih (fun x hx => h x (by simp [hx])) (k + 1) (addUses u k g.args)
    have h2 := total_add k g.args u
    have h3 := h g (by simp)
    have h4 : (l.length + 1) * m = l.length * m + m := Nat.succ_mul _ _
    simp only [usersFrom, List.length_cons, h4]; omega
theorem total_users (m : Nat) (gs : List GateM) (h : ∀ g ∈ gs, g.args.length ≤ m) : totalU (usersM gs) ≤ gs.length * m := by
  have h1 := total_from m gs h 0 (List.replicate gs.length [])
  have h2 : totalU (List.replicate gs.length []) = 0 := by simp [totalU]
  rw [h2] at h1; unfold usersM; omega

/-! the work list -/
structure SInv (gs : List GateM) (regs ins v : List Int) (work : List Int) : Prop where
  len : v.length = gs.length
  good : goodL v
  below : ∀ u : List Int, u.length = gs.length → nextV gs regs ins u = u → leqM v u = true
  asc : ∀ (k : Nat) (g : GateM), gs[k]? = some g → valI v k ≠ 2 → worthM regs ins v g = valI v k
  wait : ∀ (k : Nat) (g : GateM), gs[k]? = some g → valI v k = 2 → (k : Int) ∉ work → worthM regs ins v g = 2
  ws : ∀ k ∈ work, 0 ≤ k ∧ k < gs.length
theorem SInv.start (gs : List GateM) (regs ins : List Int) (work : List Int) (hw : ∀ k : Int, k ∈ work ↔ 0 ≤ k ∧ k < gs.length) : SInv gs regs ins (opensM gs.length) work := by
  refine ⟨by simp [opensM], opens_good _, fun u hu _ => by have := leqM_opens u; rwa [hu] at this, fun k g hk h => absurd ?_ h, fun k g hk _ hn => absurd ?_ hn, fun k hk => (hw k).1 hk⟩
  · have : k < gs.length := (List.getElem?_eq_some_iff.1 hk).1
    simp [valI, opensM, this]
  · have : k < gs.length := (List.getElem?_eq_some_iff.1 hk).1
    exact (hw k).2 (by omega)
theorem SInv.done {gs : List GateM} {regs ins v : List Int} (h : SInv gs regs ins v []) : v = settledM gs regs ins := by
  have hf : nextV gs regs ins v = v := by
    refine val_ext (by rw [next_len, h.len]) fun k hk => ?_
    rw [next_len] at hk
    rw [next_val (List.getElem?_eq_getElem hk)]
    by_cases e : valI v k = 2
    · rw [h.wait k _ (List.getElem?_eq_getElem hk) e (by simp), e]
    · exact h.asc k _ (List.getElem?_eq_getElem hk) e
  exact LeastV.uniq ⟨h.len, hf, h.below⟩ (settled_least _ _ _)
theorem SInv.skip {gs : List GateM} {regs ins v : List Int} {k : Int} {work : List Int} (h : SInv gs regs ins v (k :: work)) (hk : valI v k ≠ 2) : SInv gs regs ins v work :=
  ⟨h.len, h.good, h.below, h.asc, fun j g hj he hn => h.wait j g hj he (fun e => by
    rcases List.mem_cons.1 e with e | e
    · rw [e] at he; exact hk he
    · exact hn e), fun j hj => h.ws j (by simp [hj])⟩
theorem SInv.none {gs : List GateM} {regs ins v : List Int} {k : Int} {work : List Int} {g : GateM} (h : SInv gs regs ins v (k :: work)) (hg : gs[k.toNat]? = some g) (hx : worthM regs ins v g = 2) : SInv gs regs ins v work :=
  ⟨h.len, h.good, h.below, h.asc, fun j g' hj he hn => by
    have h0 := (h.ws k (by simp)).1
    by_cases e : (j : Int) = k
    · have : k.toNat = j := by omega
      rw [this, hj] at hg; injection hg with hg; rw [hg]; exact hx
    · exact h.wait j g' hj he (fun x => by
        rcases List.mem_cons.1 x with x | x
        · exact e x
        · exact hn x), fun j hj => h.ws j (by simp [hj])⟩
theorem valI_set (v : List Int) (k : Int) (x : Int) (j : Nat) (h0 : 0 ≤ k) (h1 : k < v.length) : valI (v.set k.toNat x) j = if (j : Int) = k then x else valI v j := by
  unfold valI
  simp only [Int.toNat_natCast]
  rw [List.getElem?_set]
  by_cases e : (j : Int) = k
  · rw [if_pos (by omega : k.toNat = j), if_pos (by omega), if_pos e]; rfl
  · rw [if_neg (by omega : ¬ k.toNat = j), if_neg e]
theorem worth_other {regs ins v u : List Int} {g : GateM} (h : ∀ a ∈ g.args, valI v a = valI u a) : worthM regs ins v g = worthM regs ins u g := by
  unfold worthM
  have : g.args.map (valI v) = g.args.map (valI u) := List.map_congr_left h
  rw [this]
theorem SInv.settle {gs : List GateM} {regs ins v : List Int} {k : Int} {work : List Int} {g : GateM} (h : SInv gs regs ins v (k :: work)) (hr : goodL regs) (hi : goodL ins) (ok : ∀ g ∈ gs, ∀ a ∈ g.args, 0 ≤ a ∧ a < gs.length)
    (hg : gs[k.toNat]? = some g) (hv : valI v k = 2) (hx : worthM regs ins v g ≠ 2) : SInv gs regs ins (v.set k.toNat (worthM regs ins v g)) (work ++ useI (usersM gs) k) := by
  obtain ⟨h0, h1⟩ := h.ws k (by simp)
  have hs := fun j : Nat => valI_set v k (worthM regs ins v g) j h0 (by rw [h.len]; exact h1)
  have hl : v.length = (v.set k.toNat (worthM regs ins v g)).length := by simp
  have hup : leqM v (v.set k.toNat (worthM regs ins v g)) = true := leqM_of_val hl fun j _ => by
    rw [hs j]; split
    · rename_i e; left; rw [e]; exact hv
    · exact leI.refl _
  have hsame : ∀ (g' : GateM), worthM regs ins v g' ≠ 2 → worthM regs ins (v.set k.toNat (worthM regs ins v g)) g' = worthM regs ins v g' := fun g' hn => by
    rcases worth_mono (regs := regs) (ins := ins) rfl rfl hl (leqM_refl _) (leqM_refl _) hup g' with e | e
    · exact absurd e hn
    · exact e.symm
  refine ⟨by simp [h.len], fun x hx => ?_, fun u hu hf => ?_, fun j g' hj hn => ?_, fun j g' hj he hn => ?_, fun j hj => ?_⟩
  · rcases List.mem_or_eq_of_mem_set hx with e | e
    · exact h.good x e
    · rw [e]; exact worth_good hr hi h.good g
  · have hb := h.below u hu hf
    refine leqM_of_val (by simp [h.len, hu]) fun j hj => ?_
    rw [hs j]; split
    · rename_i e
      rcases worth_mono (regs := regs) (ins := ins) rfl rfl (by rw [h.len, hu]) (leqM_refl _) (leqM_refl _) hb g with e2 | e2
      · exact absurd e2 hx
      · right; rw [e2]
        have hj2 : gs[j]? = some g := by rw [← hg]; congr 1; omega
        have := next_val (regs := regs) (ins := ins) (v := u) hj2
        rw [hf] at this; exact this.symm
    · exact leqM_val (by rw [h.len, hu]) hb j
  · rw [hs j] at hn ⊢
    split
    · rename_i e
      have hj2 : gs[k.toNat]? = some g' := by rw [← hj]; congr 1; omega
      rw [hg] at hj2; injection hj2 with hj2; subst hj2
      exact hsame g hx
    · rename_i e
      rw [if_neg e] at hn
      have ha := h.asc j g' hj hn
      rw [hsame g' (by rw [ha]; exact hn), ha]
  · rw [hs j] at he
    split at he
    · exact absurd he hx
    · rename_i e
      have hn' : (j : Int) ∉ work ∧ (j : Int) ∉ useI (usersM gs) k := by
        exact ⟨fun x => hn (by simp [x]), fun x => hn (by simp [x])⟩
      have hw := h.wait j g' hj he (fun x => by
        rcases List.mem_cons.1 x with x | x
        · exact e x
        · exact hn'.1 x)
      rw [← hw]
      symm
      refine worth_other fun a ha => ?_
      have hak : a ≠ k := fun x => hn'.2 ((mem_users ok h0).2 ⟨j, g', hj, rfl, by rw [← x]; exact ha⟩)
      have ha0 := (ok g' (List.mem_of_getElem? hj) a ha).1
      have := hs a.toNat
      rw [show ((a.toNat : Nat) : Int) = a from by omega] at this
      rw [this, if_neg hak]
  · rcases List.mem_append.1 hj with e | e
    · exact h.ws j (by simp [e])
    · obtain ⟨i, g', hi', rfl, _⟩ := (mem_users ok h0).1 e
      have := (List.getElem?_eq_some_iff.1 hi').1
      omega
/-- What the gates that are not yet settled may still bring. -/
def costV : List (List Int) → List Int → Nat
  | q :: u, x :: v => (if x = 2 then q.length else 0) + costV u v
  | _, _ => 0
theorem costV_set : ∀ (u : List (List Int)) (v : List Int) (k : Nat) (q : List Int) (x : Int), u[k]? = some q → v[k]? = some 2 → x ≠ 2 → costV u (v.set k x) + q.length = costV u v
  | [], _, k, q, _, h, _, _ => by simp at h
  | y :: u, [], k, q, _, _, h, _ => by simp at h
  | y :: u, b :: v, 0, q, x, h, h2, hx => by simp at h h2; subst h; subst h2; simp [costV, hx]; omega
  | y :: u, b :: v, k + 1, q, x, h, h2, hx => by
    have := costV_set u v k q x (by simpa using h) (by simpa using h2) hx
    simp [costV]; omega
theorem costV_le : ∀ (u : List (List Int)) (v : List Int), costV u v ≤ totalU u
  | [], _ => by simp [costV]
  | q :: u, [] => by simp [costV]
  | q :: u, x :: v => by
    have := costV_le u v
    simp only [costV, totalU, List.map_cons, List.sum_cons] at *
    split <;> omega

/-! the law EvalTrue -/
theorem solves_leq {gs : List GateM} {regs ins u : List Int} (hl : u.length = gs.length) (hf : nextV gs regs ins u = u) : leqM (settledM gs regs ins) u = true := (settled_least gs regs ins).least u hl hf
theorem solves_same {gs : List GateM} {regs ins u : List Int} (hl : u.length = gs.length) (hf : nextV gs regs ins u = u) (ho : (2 : Int) ∉ settledM gs regs ins) : settledM gs regs ins = u :=
  leqM_open _ _ (by rw [settled_len, hl]) (solves_leq hl hf) ho
end Go.Proofs.Ytjagbnaacfhokaa
