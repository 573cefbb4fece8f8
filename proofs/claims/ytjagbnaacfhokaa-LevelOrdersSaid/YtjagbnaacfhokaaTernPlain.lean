/- Three values, in plain Lean: what each function computes, and that the program and the reference compute the same. No program in sight. -/
namespace Go.Proofs.Ytjagbnaacfhokaa
set_option linter.unusedVariables false
set_option linter.unusedSimpArgs false

def bad3 (n : Int) : Bool := decide (n < 0) || decide (2 < n)
def gatherM (rules : Int) : List Int → Int → Int
  | [], out => out
  | v :: l, out => if v = rules then rules else gatherM rules l (if v = 2 then 2 else out)

def indexM (q : Int → Bool) : List Int → Int → Int
  | [], _ => -1
  | x :: l, k => if q x then k else indexM q l (k + 1)

theorem indexM_lo (q : Int → Bool) (l : List Int) : ∀ k : Int, 0 ≤ k → decide (0 ≤ indexM q l k) = l.any q := by
  induction l with
  | nil => intro k _; simp [indexM]
  | cons x l ih =>
    intro k hk
    by_cases h : q x = true
    · simp [indexM, h, hk]
    · simp only [indexM, h, List.any_cons]; simpa using ih (k + 1) (by omega)

def checkM (l : List Int) : Int := if l.any bad3 then 3 else 0

def notM (v : Int) : Int := if v = 0 then 1 else if v = 1 then 0 else 2
def ofM (kind : Int) (l : List Int) : Int :=
  if kind = 4 then gatherM 0 l 1 else if kind = 5 then gatherM 1 l 0 else notM (l.headD 0)

def toldM (kind : Int) (l : List Int) : Int × Int := if l.any bad3 then (0, 3) else (ofM kind l, 0)

def valuesM (l : List Int) : Bool := l.all fun v => decide (0 ≤ v) && decide (v ≤ 2)
def countM (v : Int) : List Int → Int → Int
  | [], n => n
  | x :: l, n => countM v l (if x = v then n + 1 else n)

theorem countM_le (v : Int) (l : List Int) : ∀ n : Int, n ≤ countM v l n ∧ countM v l n ≤ n + l.length := by
  induction l with
  | nil => intro n; simp [countM]
  | cons x l ih =>
    intro n
    by_cases hx : x = v
    · have := ih (n + 1)
      simp only [countM, List.length_cons, if_pos hx]; omega
    · have := ih n
      simp only [countM, List.length_cons, if_neg hx]; omega

def allM (l : List Int) : Int := if countM 0 l 0 > 0 then 0 else if countM 2 l 0 > 0 then 2 else 1
def anyM (l : List Int) : Int := if countM 1 l 0 > 0 then 1 else if countM 2 l 0 > 0 then 2 else 0
def rnotM (v : Int) : Int := if v = 2 then 2 else 1 - v
def leqM : List Int → List Int → Bool
  | x :: a, y :: b => (decide (x = 2) || decide (x = y)) && leqM a b
  | _, _ => true

def rleqOfM (xs ys : List Int) : Bool × Int :=
  if !valuesM xs || !valuesM ys then (false, 3) else if xs.length ≠ ys.length then (false, 1) else (leqM xs ys, 0)
def leqOfM (xs ys : List Int) : Bool × Int :=
  if xs.any bad3 then (false, 3) else if ys.any bad3 then (false, 3) else if xs.length ≠ ys.length then (false, 1) else (leqM xs ys, 0)

theorem checkM_bad {xs : List Int} (h : xs.any bad3 = true) : checkM xs = 3 := by simp [checkM, h]
theorem checkM_ok {xs : List Int} (h : xs.any bad3 = false) : checkM xs = 0 := by simp only [checkM, h]; rfl


/-! the plain laws -/
theorem gatherM_eq (r : Int) (hr : r ≠ 2) (l : List Int) : ∀ out, gatherM r l out = if r ∈ l then r else if (2 : Int) ∈ l then 2 else out := by
  induction l with
  | nil => intro out; simp [gatherM]
  | cons x l ih =>
    intro out
    by_cases h : x = r
    · subst h; simp [gatherM]
    · have h' : ¬ r = x := fun e => h e.symm
      by_cases h2 : x = 2
      · subst h2; simp only [gatherM, if_neg h, if_true, ih]; simp [h']
      · have h2' : ¬ 2 = x := fun e => h2 e.symm
        simp only [gatherM, if_neg h, if_neg h2, ih]; simp [h', h2']
theorem countM_pos (v : Int) (l : List Int) : ∀ n : Int, (0 < countM v l n ↔ 0 < n ∨ v ∈ l) ∨ n < 0 := by
  induction l with
  | nil => intro n; simp [countM]
  | cons x l ih =>
    intro n
    by_cases hn : n < 0
    · exact .inr hn
    · left
      by_cases h : x = v
      · subst h
        rcases ih (n + 1) with e | e
        · simp only [countM, if_true, e]; simp; omega
        · omega
      · have h' : ¬ v = x := fun e => h e.symm
        rcases ih n with e | e
        · simp only [countM, if_neg h, e]; simp [h']
        · omega
theorem countM_mem (v : Int) (l : List Int) : (0 < countM v l 0) = (v ∈ l) := by
  rcases countM_pos v l 0 with e | e
  · simpa using e
  · omega
theorem valuesM_eq (l : List Int) : valuesM l = !(l.any bad3) := by
  induction l with
  | nil => rfl
  | cons x l ih =>
    have hx : (decide (0 ≤ x) && decide (x ≤ 2)) = !bad3 x := by
      rw [Bool.eq_iff_iff]; simp [bad3]
    simp only [valuesM, List.all_cons, List.any_cons, Bool.not_or] at *
    rw [ih, hx]
theorem allM_eq (l : List Int) : allM l = ofM 4 l := by
  simp only [allM, ofM, if_true, gatherM_eq 0 (by decide), gt_iff_lt, countM_mem]
theorem anyM_eq (l : List Int) : anyM l = ofM 5 l := by
  have h : ¬ (5 : Int) = 4 := by decide
  simp only [anyM, ofM, if_neg h, if_true, gatherM_eq 1 (by decide), gt_iff_lt, countM_mem]
theorem rnotM_eq (x : Int) (h0 : 0 ≤ x) (h1 : x ≤ 2) : rnotM x = ofM 6 [x] := by
  have : x = 0 ∨ x = 1 ∨ x = 2 := by omega
  rcases this with rfl | rfl | rfl <;> decide
theorem leqOfM_eq (xs ys : List Int) : rleqOfM xs ys = leqOfM xs ys := by
  simp only [rleqOfM, leqOfM, valuesM_eq, Bool.not_not]
  cases xs.any bad3 <;> cases ys.any bad3 <;> simp
theorem told_all (l : List Int) : toldM 4 l = (if valuesM l then allM l else 0, if valuesM l then 0 else 3) := by
  rw [toldM, valuesM_eq, allM_eq]; cases l.any bad3 <;> simp
theorem told_any (l : List Int) : toldM 5 l = (if valuesM l then anyM l else 0, if valuesM l then 0 else 3) := by
  rw [toldM, valuesM_eq, anyM_eq]; cases l.any bad3 <;> simp
theorem told_not (x : Int) : toldM 6 [x] = (if valuesM [x] then rnotM x else 0, if valuesM [x] then 0 else 3) := by
  rw [toldM]
  by_cases h : valuesM [x] = true
  · have hb : [x].any bad3 = false := by rw [valuesM_eq] at h; simpa using h
    have hx : 0 ≤ x ∧ x ≤ 2 := by simpa [valuesM] using h
    rw [h, hb, rnotM_eq x hx.1 hx.2]; simp
  · have h : valuesM [x] = false := by simpa using h
    have hb : [x].any bad3 = true := by rw [valuesM_eq] at h; simpa using h
    rw [h, hb]; simp
theorem check_values (l : List Int) : (checkM l == 0) = valuesM l := by
  rw [valuesM_eq, checkM]; cases l.any bad3 <;> simp

theorem good3 {x : Int} (h : bad3 x = false) : x = 0 ∨ x = 1 ∨ x = 2 := by simp [bad3] at h; omega
theorem notM_good (x : Int) : bad3 (notM x) = false := by
  unfold notM; split
  · rfl
  · split <;> rfl
theorem ofM4_good (l : List Int) : bad3 (ofM 4 l) = false := by
  simp only [ofM, if_true, gatherM_eq 0 (by decide)]; repeat' split
  all_goals rfl
theorem all_turned (l : List Int) (h : l.any bad3 = false) : ofM 5 (l.map notM) = notM (ofM 4 l) := by
  have h5 : ¬ (5 : Int) = 4 := by decide
  simp only [ofM, if_true, if_neg h5, gatherM_eq 0 (by decide), gatherM_eq 1 (by decide)]
  have e1 : (1 ∈ l.map notM) = (0 ∈ l) := by
    rw [eq_iff_iff, List.mem_map]
    constructor
    · rintro ⟨x, hx, e⟩
      have : x = 0 := by
        unfold notM at e; split at e
        · assumption
        · split at e <;> omega
      rwa [this] at hx
    · exact fun hx => ⟨0, hx, rfl⟩
  have e2 : (2 ∈ l.map notM) = (2 ∈ l) := by
    rw [eq_iff_iff, List.mem_map]
    constructor
    · rintro ⟨x, hx, e⟩
      have hb : bad3 x = false := by
        have := List.any_eq_false.1 h x hx; simpa using this
      rcases good3 hb with rfl | rfl | rfl
      · simp [notM] at e
      · simp [notM] at e
      · exact hx
    · exact fun hx => ⟨2, hx, rfl⟩
  simp only [e1, e2]
  by_cases h0 : (0 : Int) ∈ l
  · simp [h0, notM]
  · by_cases h2 : (2 : Int) ∈ l
    · simp [h0, h2, notM]
    · simp [h0, h2, notM]
theorem leqM_mem (r : Int) : ∀ xs ys : List Int, xs.length = ys.length → leqM xs ys = true → r ≠ 2 → r ∈ xs → r ∈ ys
  | [], _, _, _, _, h => by simp at h
  | x :: xs, [], hl, _, _, _ => by simp at hl
  | x :: xs, y :: ys, hl, h, hr, hm => by
    simp only [leqM, Bool.and_eq_true, Bool.or_eq_true, decide_eq_true_eq] at h
    rcases List.mem_cons.1 hm with e | e
    · subst e
      rcases h.1 with h1 | h1
      · exact absurd h1 hr
      · subst h1; simp
    · exact List.mem_cons_of_mem _ (leqM_mem r xs ys (by simpa using hl) h.2 hr e)
theorem leqM_open : ∀ xs ys : List Int, xs.length = ys.length → leqM xs ys = true → (2 : Int) ∉ xs → xs = ys
  | [], [], _, _, _ => rfl
  | [], y :: ys, hl, _, _ => by simp at hl
  | x :: xs, [], hl, _, _ => by simp at hl
  | x :: xs, y :: ys, hl, h, hm => by
    simp only [leqM, Bool.and_eq_true, Bool.or_eq_true, decide_eq_true_eq] at h
    have hx : ¬ x = 2 := fun e => hm (by simp [e])
    rcases h.1 with h1 | h1
    · exact absurd h1 hx
    · rw [h1, leqM_open xs ys (by simpa using hl) h.2 (fun e => hm (List.mem_cons_of_mem _ e))]
theorem leq_of (k : Int) (hk : k = 4 ∨ k = 5) (xs ys : List Int) (hl : xs.length = ys.length) (h : leqM xs ys = true) : ofM k xs = 2 ∨ ofM k xs = ofM k ys := by
  have h5 : ¬ (5 : Int) = 4 := by decide
  by_cases hm : (2 : Int) ∈ xs
  · rcases hk with rfl | rfl
    · by_cases h0 : (0 : Int) ∈ xs
      · right; have := leqM_mem 0 xs ys hl h (by decide) h0; simp [ofM, gatherM_eq 0, h0, this]
      · left; simp [ofM, gatherM_eq 0, h0, hm]
    · by_cases h0 : (1 : Int) ∈ xs
      · right; have := leqM_mem 1 xs ys hl h (by decide) h0; simp [ofM, gatherM_eq 1, h0, this]
      · left; simp [ofM, gatherM_eq 1, h0, hm]
  · right; rw [leqM_open xs ys hl h hm]
end Go.Proofs.Ytjagbnaacfhokaa
