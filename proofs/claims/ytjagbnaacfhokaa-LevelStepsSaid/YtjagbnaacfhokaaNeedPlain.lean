/- Who is needed, in plain Lean: the work list and the rounds tell the same. No program in sight. -/
import Derived.Test.YtjagbnaacfhokaaNetPlain
namespace Go.Proofs.Ytjagbnaacfhokaa
set_option linter.unusedVariables false
set_option linter.unusedSimpArgs false

def argsI (gs : List GateM) (k : Int) : List Int := (gs[k.toNat]?.map (·.args)).getD []
def onI (o : List Bool) (k : Int) : Bool := o[k.toNat]?.getD false
def markM (o : List Bool) (l : List Int) : List Bool := l.foldl (fun o a => o.set a.toNat true) o
def roundFrom : List GateM → Nat → List Bool → List Bool
  | [], _, o => o
  | g :: l, k, o => roundFrom l (k + 1) (if onI o k then markM o g.args else o)
def roundM (gs : List GateM) (o : List Bool) : List Bool := roundFrom gs 0 o
def roundsM (gs : List GateM) : Nat → List Bool → List Bool
  | 0, o => o
  | n + 1, o => roundsM gs n (roundM gs o)
def needsM (gs : List GateM) (l : List Int) : List Bool := roundsM gs gs.length (markM (List.replicate gs.length false) l)
def inR (n : Nat) (l : List Int) : Prop := ∀ k ∈ l, 0 ≤ k ∧ k < n
def okArgs (gs : List GateM) : Prop := ∀ g ∈ gs, inR gs.length g.args

inductive NReach (gs : List GateM) (l : List Int) : Int → Prop
  | base {k : Int} : k ∈ l → NReach gs l k
  | step {k a : Int} : NReach gs l k → a ∈ argsI gs k → NReach gs l a

theorem argsI_mem {gs : List GateM} {k a : Int} (h : a ∈ argsI gs k) : ∃ g, gs[k.toNat]? = some g ∧ a ∈ g.args := by
  unfold argsI at h
  cases e : gs[k.toNat]? with
  | none => simp [e] at h
  | some g => exact ⟨g, rfl, by simpa [e] using h⟩
theorem argsI_range {gs : List GateM} (h : okArgs gs) {k a : Int} (ha : a ∈ argsI gs k) : 0 ≤ a ∧ a < gs.length := by
  obtain ⟨g, hg, hm⟩ := argsI_mem ha
  exact h g (List.mem_of_getElem? hg) a hm
theorem reach_range {gs : List GateM} (h : okArgs gs) {l : List Int} (hl : inR gs.length l) {k : Int} (r : NReach gs l k) : 0 ≤ k ∧ k < gs.length := by
  cases r with
  | base hk => exact hl _ hk
  | step _ ha => exact argsI_range h ha

/-! lists of flags -/
theorem onI_set (o : List Bool) (a k : Int) (h0 : 0 ≤ a) (h1 : a < o.length) (k0 : 0 ≤ k) : onI (o.set a.toNat true) k = (onI o k || decide (k = a)) := by
  unfold onI
  rw [List.getElem?_set]
  by_cases e : k = a
  · subst e; rw [if_pos rfl, if_pos (by omega)]; simp
  · have : ¬ a.toNat = k.toNat := by omega
    simp [this, e]
theorem markM_length (l : List Int) : ∀ o : List Bool, (markM o l).length = o.length := by
  induction l with
  | nil => intro o; rfl
  | cons a l ih => intro o; simp only [markM, List.foldl_cons] at *; rw [ih]; simp
theorem onI_mark (l : List Int) (k : Int) (k0 : 0 ≤ k) : ∀ o : List Bool, inR o.length l → (onI (markM o l) k = true ↔ onI o k = true ∨ k ∈ l) := by
  induction l with
  | nil => intro o _; simp [markM]
  | cons a l ih =>
    intro o h
    have ha := h a (by simp)
    have h2 := ih (o.set a.toNat true) (fun x hx => by simpa using h x (by simp [hx]))
    simp only [markM, List.foldl_cons] at h2 ⊢
    rw [h2, onI_set o a k ha.1 ha.2 k0]
    simp only [Bool.or_eq_true, decide_eq_true_eq, List.mem_cons]
    constructor
    · rintro ((h | h) | h)
      · exact .inl h
      · exact .inr (.inl h)
      · exact .inr (.inr h)
    · rintro (h | h | h)
      · exact .inl (.inl h)
      · exact .inl (.inr h)
      · exact .inr h
theorem flags_ext {a b : List Bool} (hl : a.length = b.length) (h : ∀ k : Nat, k < a.length → onI a k = onI b k) : a = b := by
  apply List.ext_getElem hl
  intro i h1 h2
  have := h i h1
  simpa [onI, List.getElem?_eq_getElem h1, List.getElem?_eq_getElem h2] using this
theorem onI_lt {o : List Bool} {k : Int} (h : onI o k = true) : k.toNat < o.length := by
  unfold onI at h
  rcases Nat.lt_or_ge k.toNat o.length with e | e
  · exact e
  · rw [List.getElem?_eq_none e] at h; cases h

/-- What is needed: closed, and nothing else than is reached. -/
structure Least (gs : List GateM) (l : List Int) (o : List Bool) : Prop where
  len : o.length = gs.length
  sound : ∀ k : Int, 0 ≤ k → onI o k = true → NReach gs l k
  all : ∀ k ∈ l, onI o k = true
  closed : ∀ k : Int, 0 ≤ k → onI o k = true → ∀ a ∈ argsI gs k, onI o a = true
theorem Least.iff {gs : List GateM} {l : List Int} {o : List Bool} (h : Least gs l o) (ok : okArgs gs) (hl : inR gs.length l) {k : Int} (h0 : 0 ≤ k) : onI o k = true ↔ NReach gs l k := by
  refine ⟨h.sound k h0, fun r => ?_⟩
  induction r with
  | base hk => exact h.all _ hk
  | step r ha ih => exact h.closed _ (reach_range ok hl r).1 (ih (reach_range ok hl r).1) _ ha
theorem Least.uniq {gs : List GateM} {l : List Int} {a b : List Bool} (h : Least gs l a) (k : Least gs l b) (ok : okArgs gs) (hl : inR gs.length l) : a = b := by
  refine flags_ext (by rw [h.len, k.len]) fun i _ => ?_
  rw [Bool.eq_iff_iff, h.iff ok hl (by omega), k.iff ok hl (by omega)]

/-! the rounds -/
def subB : List Bool → List Bool → Bool
  | [], [] => true
  | x :: a, y :: b => (!x || y) && subB a b
  | _, _ => false
theorem subB_refl (a : List Bool) : subB a a = true := by
  induction a with
  | nil => rfl
  | cons x a ih => cases x <;> simp [subB, ih]
theorem subB_trans : ∀ {a b c : List Bool}, subB a b = true → subB b c = true → subB a c = true
  | [], [], [], _, _ => rfl
  | [], [], z :: c, _, h => by simp [subB] at h
  | [], y :: b, _, h, _ => by simp [subB] at h
  | x :: a, [], _, h, _ => by simp [subB] at h
  | x :: a, y :: b, [], _, h => by simp [subB] at h
  | x :: a, y :: b, z :: c, h, k => by
    simp only [subB, Bool.and_eq_true] at *
    exact ⟨by cases x <;> cases y <;> cases z <;> simp_all, subB_trans h.2 k.2⟩
theorem subB_anti : ∀ {a b : List Bool}, subB a b = true → subB b a = true → a = b
  | [], [], _, _ => rfl
  | [], y :: b, h, _ => by simp [subB] at h
  | x :: a, [], h, _ => by simp [subB] at h
  | x :: a, y :: b, h, k => by
    simp only [subB, Bool.and_eq_true] at *
    rw [subB_anti h.2 k.2]; cases x <;> cases y <;> simp_all
theorem subB_set : ∀ (o : List Bool) (k : Nat), subB o (o.set k true) = true
  | [], _ => rfl
  | x :: o, 0 => by simp [subB, subB_refl]
  | x :: o, k + 1 => by simp [subB, subB_set o k]
theorem subB_mark (l : List Int) : ∀ o : List Bool, subB o (markM o l) = true := by
  induction l with
  | nil => intro o; exact subB_refl o
  | cons a l ih => intro o; exact subB_trans (subB_set o _) (ih _)
theorem subB_len : ∀ {a b : List Bool}, subB a b = true → a.length = b.length
  | [], [], _ => rfl
  | [], y :: b, h => by simp [subB] at h
  | x :: a, [], h => by simp [subB] at h
  | x :: a, y :: b, h => by simp only [subB, Bool.and_eq_true] at h; simp [subB_len h.2]
theorem subB_at : ∀ {a b : List Bool} (k : Nat), subB a b = true → a[k]?.getD false = true → b[k]?.getD false = true
  | [], _, k, _, h => by simp at h
  | x :: a, [], _, h, _ => by simp [subB] at h
  | x :: a, y :: b, 0, h, k => by simp only [subB, Bool.and_eq_true] at h; simp_all
  | x :: a, y :: b, n + 1, h, k => by simp only [subB, Bool.and_eq_true] at h; simpa using subB_at n h.2 (by simpa using k)
def cnt (o : List Bool) : Nat := o.countP id
theorem cnt_le : ∀ {a b : List Bool}, subB a b = true → cnt a ≤ cnt b ∧ (cnt a = cnt b → a = b)
  | [], [], _ => ⟨Nat.le_refl _, fun _ => rfl⟩
  | [], y :: b, h => by simp [subB] at h
  | x :: a, [], h => by simp [subB] at h
  | x :: a, y :: b, h => by
    simp only [subB, Bool.and_eq_true] at h
    obtain ⟨h1, h2⟩ := cnt_le h.2
    unfold cnt at *
    cases x <;> cases y <;> simp_all <;> omega
theorem cnt_max (o : List Bool) : cnt o ≤ o.length := List.countP_le_length
theorem roundFrom_sub (l : List GateM) : ∀ (k : Nat) (o : List Bool), subB o (roundFrom l k o) = true := by
  induction l with
  | nil => intro k o; exact subB_refl o
  | cons g l ih =>
    intro k o
    simp only [roundFrom]
    split
    · exact subB_trans (subB_mark _ _) (ih _ _)
    · exact ih _ _
theorem roundFrom_sound {gs : List GateM} {q : List Int} (ok : okArgs gs) (hq : inR gs.length q) (l : List GateM) : ∀ (k : Nat) (o : List Bool), gs.drop k = l → o.length = gs.length → (∀ i : Int, 0 ≤ i → onI o i = true → NReach gs q i) →
    ∀ i : Int, 0 ≤ i → onI (roundFrom l k o) i = true → NReach gs q i := by
  induction l with
  | nil => intro k o _ _ h; exact h
  | cons g l ih =>
    intro k o hd ho h i hi hon
    simp only [roundFrom] at hon
    have hk : gs[k]? = some g := by
      have : (gs.drop k)[0]? = some g := by rw [hd]; rfl
      simpa using this
    have hd' : gs.drop (k + 1) = l := by rw [← List.drop_drop, hd]; rfl
    split at hon
    · rename_i hk2
      refine ih (k + 1) _ hd' (by rw [markM_length, ho]) (fun j hj hj2 => ?_) i hi hon
      have hr : inR o.length g.args := by rw [ho]; exact ok g (List.mem_of_getElem? hk)
      rcases (onI_mark g.args j hj o hr).1 hj2 with e | e
      · exact h j hj e
      · exact .step (h k (by omega) hk2) (by simp [argsI, hk, e])
    · exact ih (k + 1) o hd' ho h i hi hon
theorem roundFrom_fix {gs : List GateM} (ok : okArgs gs) (l : List GateM) : ∀ (k : Nat) (o : List Bool), gs.drop k = l → o.length = gs.length → subB (roundFrom l k o) o = true →
    ∀ (j : Nat) (g : GateM), l[j]? = some g → onI o ((k + j : Nat) : Int) = true → ∀ a ∈ g.args, onI o a = true := by
  induction l with
  | nil => intro k o _ _ _ j g h; simp at h
  | cons g l ih =>
    intro k o hd ho h j x hj hon a ha
    have hk : gs[k]? = some g := by
      have : (gs.drop k)[0]? = some g := by rw [hd]; rfl
      simpa using this
    have hd' : gs.drop (k + 1) = l := by rw [← List.drop_drop, hd]; rfl
    simp only [roundFrom] at h
    generalize hb : onI o k = b at h
    cases b
    · simp only [Bool.false_eq_true, if_false] at h
      cases j with
      | zero => simp at hon; rw [hon] at hb; cases hb
      | succ j => exact ih (k + 1) o hd' ho h j x (by simpa using hj) (by rw [show k + 1 + j = k + (j + 1) from by omega]; exact hon) a ha
    · simp only [if_true] at h
      have hm : markM o g.args = o := subB_anti (subB_trans (roundFrom_sub l (k + 1) _) h) (subB_mark _ _)
      rw [hm] at h
      cases j with
      | zero =>
        simp at hj; subst hj
        have hr : inR o.length g.args := by rw [ho]; exact ok g (List.mem_of_getElem? hk)
        have := (onI_mark g.args a (hr a ha).1 o hr).2 (.inr ha)
        rwa [hm] at this
      | succ j => exact ih (k + 1) o hd' ho h j x (by simpa using hj) (by rw [show k + 1 + j = k + (j + 1) from by omega]; exact hon) a ha
theorem roundM_len (gs : List GateM) (o : List Bool) : (roundM gs o).length = o.length := (subB_len (roundFrom_sub gs 0 o)).symm
theorem roundsM_fixed (gs : List GateM) (n : Nat) : ∀ o, roundM gs o = o → roundsM gs n o = o := by
  induction n with
  | zero => intro o _; rfl
  | succ n ih => intro o h; simp only [roundsM, h]; exact ih o h
theorem roundsM_fix (gs : List GateM) (n : Nat) : ∀ o : List Bool, o.length - cnt o ≤ n → roundM gs (roundsM gs n o) = roundsM gs n o := by
  induction n with
  | zero =>
    intro o h
    simp only [roundsM]
    have h1 := cnt_le (roundFrom_sub gs 0 o)
    have h2 := cnt_max (roundFrom gs 0 o)
    have h3 := cnt_max o
    have h4 := roundM_len gs o
    unfold roundM at *
    exact (h1.2 (by omega)).symm
  | succ n ih =>
    intro o h
    by_cases e : roundM gs o = o
    · rw [roundsM_fixed gs (n + 1) o e]; exact e
    · simp only [roundsM]
      refine ih _ ?_
      have h1 := cnt_le (roundFrom_sub gs 0 o)
      have h4 := roundM_len gs o
      have : cnt o ≠ cnt (roundM gs o) := fun hc => e (h1.2 hc).symm
      unfold roundM at *
      omega
theorem roundsM_len (gs : List GateM) (n : Nat) : ∀ o, (roundsM gs n o).length = o.length := by
  induction n with
  | zero => intro o; rfl
  | succ n ih => intro o; simp only [roundsM]; rw [ih, roundM_len]
theorem roundsM_sub (gs : List GateM) (n : Nat) : ∀ o, subB o (roundsM gs n o) = true := by
  induction n with
  | zero => intro o; exact subB_refl o
  | succ n ih => intro o; exact subB_trans (roundFrom_sub gs 0 o) (ih _)
theorem roundsM_sound {gs : List GateM} {q : List Int} (ok : okArgs gs) (hq : inR gs.length q) (n : Nat) : ∀ o : List Bool, o.length = gs.length → (∀ i : Int, 0 ≤ i → onI o i = true → NReach gs q i) →
    ∀ i : Int, 0 ≤ i → onI (roundsM gs n o) i = true → NReach gs q i := by
  induction n with
  | zero => intro o _ h; exact h
  | succ n ih => intro o ho h; exact ih _ (by rw [roundM_len, ho]) (roundFrom_sound ok hq gs 0 o rfl ho h)
theorem onI_none (n : Nat) (k : Int) : onI (List.replicate n false) k = false := by
  unfold onI; rw [List.getElem?_replicate]; split <;> rfl
theorem needsM_len (gs : List GateM) (l : List Int) : (needsM gs l).length = gs.length := by simp [needsM, roundsM_len, markM_length]
theorem needsM_least {gs : List GateM} {l : List Int} (ok : okArgs gs) (hl : inR gs.length l) : Least gs l (needsM gs l) := by
  have hr : inR (List.replicate gs.length false).length l := by simpa using hl
  have h0 : ∀ k : Int, 0 ≤ k → (onI (markM (List.replicate gs.length false) l) k = true ↔ k ∈ l) := fun k k0 => by
    rw [onI_mark l k k0 _ hr, onI_none]; simp
  refine ⟨needsM_len _ _, fun k k0 h => ?_, fun k hk => ?_, fun k k0 h a ha => ?_⟩
  · exact roundsM_sound ok hl _ _ (by simp [markM_length]) (fun i i0 h => .base ((h0 i i0).1 h)) k k0 h
  · exact subB_at k.toNat (roundsM_sub gs _ _) ((h0 k (hl k hk).1).2 hk)
  · obtain ⟨g, hg, hm⟩ := argsI_mem ha
    have hf := roundsM_fix gs gs.length (markM (List.replicate gs.length false) l) (by simp [markM_length])
    refine roundFrom_fix ok gs 0 _ rfl (needsM_len gs l) (by rw [show roundFrom gs 0 (needsM gs l) = needsM gs l from hf]; exact subB_refl _) k.toNat g hg ?_ a hm
    have : ((0 + k.toNat : Nat) : Int) = k := by omega
    rw [this]; exact h

/-! the work list -/
structure NeedInv (gs : List GateM) (l : List Int) (o : List Bool) (work : List Int) : Prop where
  len : o.length = gs.length
  sound : ∀ k : Int, 0 ≤ k → onI o k = true → NReach gs l k
  ws : ∀ k ∈ work, NReach gs l k
  all : ∀ k ∈ l, onI o k = true ∨ k ∈ work
  closed : ∀ k : Int, 0 ≤ k → onI o k = true → ∀ a ∈ argsI gs k, onI o a = true ∨ a ∈ work
theorem NeedInv.start (gs : List GateM) (l : List Int) : NeedInv gs l (List.replicate gs.length false) l :=
  ⟨by simp, fun k _ h => absurd h (by rw [onI_none]; decide), fun k h => .base h, fun k h => .inr h, fun k _ h => absurd h (by rw [onI_none]; decide)⟩
theorem NeedInv.done {gs : List GateM} {l : List Int} {o : List Bool} (h : NeedInv gs l o []) (ok : okArgs gs) (hl : inR gs.length l) : o = needsM gs l := by
  refine Least.uniq (gs := gs) (l := l) ⟨h.len, h.sound, fun k hk => ?_, fun k k0 hk a ha => ?_⟩ (needsM_least ok hl) ok hl
  · rcases h.all k hk with e | e
    · exact e
    · cases e
  · rcases h.closed k k0 hk a ha with e | e
    · exact e
    · cases e
theorem NeedInv.skip {gs : List GateM} {l : List Int} {o : List Bool} {work : List Int} {k : Int} (h : NeedInv gs l o (work ++ [k])) (hk : onI o k = true) : NeedInv gs l o work :=
  ⟨h.len, h.sound, fun j hj => h.ws j (by simp [hj]), fun j hj => by
    rcases h.all j hj with e | e
    · exact .inl e
    · rcases List.mem_append.1 e with e | e
      · exact .inr e
      · simp at e; subst e; exact .inl hk, fun j j0 hj a ha => by
    rcases h.closed j j0 hj a ha with e | e
    · exact .inl e
    · rcases List.mem_append.1 e with e | e
      · exact .inr e
      · simp at e; subst e; exact .inl hk⟩
theorem NeedInv.range {gs : List GateM} {l : List Int} {o : List Bool} {work : List Int} {k : Int} (h : NeedInv gs l o (work ++ [k])) (ok : okArgs gs) (hl : inR gs.length l) : 0 ≤ k ∧ k < gs.length :=
  reach_range ok hl (h.ws k (by simp))
theorem NeedInv.mark {gs : List GateM} {l : List Int} {o : List Bool} {work : List Int} {k : Int} (h : NeedInv gs l o (work ++ [k])) (ok : okArgs gs) (hl : inR gs.length l) : NeedInv gs l (o.set k.toNat true) (work ++ argsI gs k) := by
  obtain ⟨k0, k1⟩ := h.range ok hl
  have hs : ∀ j : Int, 0 ≤ j → onI (o.set k.toNat true) j = (onI o j || decide (j = k)) := fun j j0 => onI_set o k j k0 (by rw [h.len]; exact k1) j0
  refine ⟨by simp [h.len], fun j j0 hj => ?_, fun j hj => ?_, fun j hj => ?_, fun j j0 hj a ha => ?_⟩
  · rw [hs j j0] at hj
    simp only [Bool.or_eq_true, decide_eq_true_eq] at hj
    rcases hj with e | rfl
    · exact h.sound j j0 e
    · exact h.ws _ (by simp)
  · rcases List.mem_append.1 hj with e | e
    · exact h.ws j (by simp [e])
    · exact .step (h.ws k (by simp)) e
  · rw [hs j (hl j hj).1]
    rcases h.all j hj with e | e
    · simp [e]
    · rcases List.mem_append.1 e with e | e
      · exact .inr (by simp [e])
      · simp at e; simp [e]
  · rw [hs j j0] at hj
    rw [hs a (argsI_range ok ha).1]
    simp only [Bool.or_eq_true, decide_eq_true_eq] at hj
    rcases hj with e | rfl
    · rcases h.closed j j0 e a ha with e | e
      · simp [e]
      · rcases List.mem_append.1 e with e | e
        · exact .inr (by simp [e])
        · simp at e; simp [e]
    · exact .inr (by simp [ha])
/-- What the gates that are not yet marked may still bring. -/
def costN : List GateM → List Bool → Nat
  | g :: gs, b :: o => (if b then 0 else g.args.length) + costN gs o
  | _, _ => 0
theorem costN_set : ∀ (gs : List GateM) (o : List Bool) (k : Nat) (g : GateM), gs[k]? = some g → o[k]? = some false → costN gs (o.set k true) + g.args.length = costN gs o
  | [], _, k, g, h, _ => by simp at h
  | x :: gs, [], k, g, _, h => by simp at h
  | x :: gs, b :: o, 0, g, h, h2 => by simp at h h2; subst h; subst h2; simp [costN]; omega
  | x :: gs, b :: o, k + 1, g, h, h2 => by
    have := costN_set gs o k g (by simpa using h) (by simpa using h2)
    simp [costN]; omega
theorem costN_le (m : Nat) : ∀ (gs : List GateM) (o : List Bool), (∀ g ∈ gs, g.args.length ≤ m) → costN gs o ≤ gs.length * m
  | [], _, _ => by simp [costN]
  | x :: gs, [], _ => by simp [costN]
  | x :: gs, b :: o, h => by
    have h1 := costN_le m gs o (fun g hg => h g (by simp [hg]))
    have h2 := h x (by simp)
    have h3 : (gs.length + 1) * m = gs.length * m + m := Nat.succ_mul _ _
    simp only [costN, List.length_cons, h3]
    split <;> omega

/-! the law NetTrue -/
theorem reach_mono {gs : List GateM} {l q : List Int} (h : ∀ k ∈ l, NReach gs q k) {k : Int} (r : NReach gs l k) : NReach gs q k := by
  induction r with
  | base hk => exact h _ hk
  | step _ ha ih => exact .step ih ha
theorem reach_append {gs : List GateM} {l q : List Int} {k : Int} : NReach gs (l ++ q) k ↔ NReach gs l k ∨ NReach gs q k := by
  constructor
  · intro r
    induction r with
    | base hk =>
      rcases List.mem_append.1 hk with e | e
      · exact .inl (.base e)
      · exact .inr (.base e)
    | step _ ha ih =>
      rcases ih with e | e
      · exact .inl (.step e ha)
      · exact .inr (.step e ha)
  · rintro (r | r)
    · exact reach_mono (fun k hk => .base (by simp [hk])) r
    · exact reach_mono (fun k hk => .base (by simp [hk])) r
theorem needs_more {gs : List GateM} {l : List Int} {g : Int} (ok : okArgs gs) (hl : inR gs.length l) (hg : 0 ≤ g ∧ g < gs.length) (j : Nat) :
    onI (needsM gs (l ++ [g])) j = (onI (needsM gs l) j || onI (needsM gs [g]) j) := by
  have h1 : inR gs.length [g] := fun k hk => by simp at hk; subst hk; exact hg
  have h2 : inR gs.length (l ++ [g]) := fun k hk => by
    rcases List.mem_append.1 hk with e | e
    · exact hl k e
    · exact h1 k e
  rw [Bool.eq_iff_iff, Bool.or_eq_true, (needsM_least ok h2).iff ok h2 (by omega), (needsM_least ok hl).iff ok hl (by omega), (needsM_least ok h1).iff ok h1 (by omega), reach_append]
theorem needs_same {gs : List GateM} {l : List Int} {g : Int} (ok : okArgs gs) (hl : inR gs.length l) (hg : 0 ≤ g ∧ g < gs.length) (hn : onI (needsM gs l) g = true) : needsM gs l = needsM gs (l ++ [g]) := by
  refine flags_ext (by simp [needsM_len]) fun k _ => ?_
  rw [needs_more ok hl hg]
  have h1 : inR gs.length [g] := fun k hk => by simp at hk; subst hk; exact hg
  cases e : onI (needsM gs [g]) k with
  | false => simp
  | true =>
    have r := (needsM_least ok h1).sound k (by omega) e
    have rg := (needsM_least ok hl).sound g hg.1 hn
    have := (needsM_least ok hl).iff ok hl (k := k) (by omega) |>.2 (reach_mono (fun x hx => by simp at hx; subst hx; exact rg) r)
    rw [this]; rfl
theorem needs_args {gs : List GateM} {l : List Int} {g a : Int} (ok : okArgs gs) (hl : inR gs.length l) (hg : 0 ≤ g) (hn : onI (needsM gs l) g = true) (ha : a ∈ argsI gs g) : onI (needsM gs l) a = true :=
  (needsM_least ok hl).closed g hg hn a ha
end Go.Proofs.Ytjagbnaacfhokaa
