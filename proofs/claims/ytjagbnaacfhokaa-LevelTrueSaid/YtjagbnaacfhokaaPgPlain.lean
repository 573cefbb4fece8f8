/- Programs, in plain Lean. No Go in sight. -/
namespace Go.Proofs.Ytjagbnaacfhokaa
set_option linter.unusedVariables false
set_option linter.unusedSimpArgs false

structure PNode where
  kind : Int
  sig : Int
  deriving DecidableEq

def two (k : Int) : Bool := decide (5 ≤ k)

/-- What is left of a list behind n programs. -/
def skipN : Nat → List PNode → Option (List PNode)
  | 0, l => some l
  | _ + 1, [] => none
  | n + 1, x :: l => skipN (if two x.kind then n + 2 else n) l

theorem skipN_zero (l : List PNode) : skipN 0 l = some l := by cases l <;> rfl

theorem skipN_add (l : List PNode) : ∀ a b, skipN (a + b) l = (skipN a l).bind (skipN b) := by
  induction l with
  | nil =>
    intro a b
    cases a with
    | zero => simp [skipN]
    | succ a => rw [show a + 1 + b = (a + b) + 1 from by omega]; rfl
  | cons x l ih =>
    intro a b
    cases a with
    | zero => simp [skipN]
    | succ a =>
      rw [show a + 1 + b = (a + b) + 1 from by omega]
      simp only [skipN]
      split
      · rw [show a + b + 2 = a + 2 + b from by omega, ih]
      · exact ih a b

theorem skip_two (x : PNode) (l : List PNode) (h : two x.kind = true) : skipN 1 (x :: l) = (skipN 1 l).bind (skipN 1) := by
  rw [← skipN_add]; simp [skipN, h]
theorem skip_one (x : PNode) (l : List PNode) (h : two x.kind = false) : skipN 1 (x :: l) = some l := by
  simp [skipN, h, skipN_zero]

theorem skipN_suffix (l : List PNode) : ∀ n r, skipN n l = some r → ∃ d, l = d ++ r := by
  induction l with
  | nil => intro n r h; cases n <;> simp [skipN] at h; exact ⟨[], by simp [h]⟩
  | cons x l ih =>
    intro n r h
    cases n with
    | zero => simp [skipN] at h; exact ⟨[], by simp [h]⟩
    | succ n => obtain ⟨d, hd⟩ := ih _ _ h; exact ⟨x :: d, by simp [hd]⟩

theorem skip_lt {l r : List PNode} (h : skipN 1 l = some r) : r.length < l.length := by
  cases l with
  | nil => simp [skipN] at h
  | cons x l =>
    obtain ⟨d, hd⟩ := skipN_suffix l _ r h
    have := congrArg List.length hd
    simp at this ⊢; omega

/-- Where the next program behind the one at k begins; -1: there is none at k. -/
def oneM (p : List PNode) (k : Int) : Int :=
  if k < 0 then -1 else match skipN 1 (p.drop k.toNat) with
    | some r => (p.length : Int) - r.length
    | none => -1

theorem drop_suffix {p d r : List PNode} (k : Nat) (h : p.drop k = d ++ r) : p.drop (p.length - r.length) = r := by
  have hl := congrArg List.length h
  simp at hl
  have e : p.length - r.length = k + d.length ∨ (r = [] ∧ d = []) := by
    cases r with
    | nil => cases d with
      | nil => right; simp
      | cons => left; simp at hl ⊢; omega
    | cons => left; simp at hl ⊢; omega
  rcases e with e | ⟨rfl, rfl⟩
  · rw [e, ← List.drop_drop, h]; simp
  · simp

theorem oneM_neg (p : List PNode) {k : Int} (h : k < 0) : oneM p k = -1 := by simp [oneM, h]
theorem oneM_big (p : List PNode) {k : Int} (h : (p.length : Int) ≤ k) : oneM p k = -1 := by
  have : ¬ k < 0 := by omega
  have e : p.drop k.toNat = [] := List.drop_eq_nil_of_le (by omega)
  simp [oneM, this, e, skipN]
theorem oneM_leaf {p : List PNode} {k : Nat} {x : PNode} (hx : p[k]? = some x) (h : two x.kind = false) : oneM p k = k + 1 := by
  have hk : k < p.length := (List.getElem?_eq_some_iff.1 hx).1
  have hd : p.drop k = x :: p.drop (k + 1) := by
    rw [List.drop_eq_getElem_cons hk]; congr 1; exact (List.getElem?_eq_some_iff.1 hx).2
  have : ¬ (k : Int) < 0 := by omega
  simp only [oneM, this, if_false, Int.toNat_natCast, hd, skip_one x _ h, List.length_drop]
  omega
theorem oneM_range (p : List PNode) (k : Int) : oneM p k = -1 ∨ (0 ≤ k ∧ k < oneM p k ∧ oneM p k ≤ p.length) := by
  by_cases hk : k < 0
  · left; exact oneM_neg p hk
  · simp only [oneM, hk, if_false]
    cases h : skipN 1 (p.drop k.toNat) with
    | none => simp
    | some r =>
      right
      have := skip_lt h
      simp at this
      simp only []
      omega
theorem oneM_two {p : List PNode} {k : Nat} {x : PNode} (hx : p[k]? = some x) (h : two x.kind = true) : oneM p k = oneM p (oneM p ((k : Int) + 1)) := by
  have hk : k < p.length := (List.getElem?_eq_some_iff.1 hx).1
  have hd : p.drop k = x :: p.drop (k + 1) := by
    rw [List.drop_eq_getElem_cons hk]; congr 1; exact (List.getElem?_eq_some_iff.1 hx).2
  have h0 : ¬ (k : Int) < 0 := by omega
  have h1 : ¬ (k : Int) + 1 < 0 := by omega
  have e1 : ((k : Int) + 1).toNat = k + 1 := by omega
  have hL : oneM p k = match (skipN 1 (p.drop (k + 1))).bind (skipN 1) with | some r => (p.length : Int) - r.length | none => -1 := by
    simp only [oneM, h0, if_false, Int.toNat_natCast, hd, skip_two x _ h]
  rw [hL]
  have hM : oneM p ((k : Int) + 1) = match skipN 1 (p.drop (k + 1)) with | some r => (p.length : Int) - r.length | none => -1 := by
    simp only [oneM, h1, if_false, e1]
  rw [hM]
  cases hs : skipN 1 (p.drop (k + 1)) with
  | none => simp [oneM]
  | some r =>
    obtain ⟨d, hdr⟩ := skipN_suffix _ _ _ hs
    have hr := drop_suffix (k + 1) hdr
    have hlen : r.length ≤ p.length := by
      have := congrArg List.length hdr; simp at this; omega
    have h2 : ¬ (p.length : Int) - r.length < 0 := by omega
    have e2 : ((p.length : Int) - r.length).toNat = p.length - r.length := by omega
    simp only [Option.bind_some, oneM, h2, if_false, e2, hr]

def signsM (kind : Int) : Int := if kind = 4 ∨ kind = 7 then 3 else if kind = 3 ∨ kind = 8 then 3 else 1
def badKind (x : PNode) : Bool := decide (x.kind < 0) || decide (8 < x.kind)
def badSig (x : PNode) : Bool := decide (x.sig < 0) || decide (signsM x.kind ≤ x.sig)
def checkP (p : List PNode) : Int :=
  if 14 < p.length then 2 else if p.any badKind then 4 else if p.any badSig then 3 else if oneM p 0 ≠ p.length then 1 else 0
def waitK (k : Int) : Bool := decide (k = 1) || decide (k = 2) || decide (k = 4)

def ofP (p : List PNode) (k : Nat) : Int × Int × Int :=
  match p[k]? with
  | some x => if two x.kind then ((k : Int) + 1, oneM p ((k : Int) + 1), oneM p k) else (0, 0, oneM p k)
  | none => (0, 0, 0)
def partsP (p : List PNode) (k : Int) : (Int × Int × Int) × Int :=
  if checkP p ≠ 0 then ((0, 0, 0), checkP p) else if k < 0 ∨ (p.length : Int) ≤ k then ((0, 0, 0), 3) else (ofP p k.toNat, 0)
def waitsP (p : List PNode) : List Bool := p.map fun x => waitK x.kind

/-! the reference -/
def rtwo (k : Int) : Bool := decide (5 ≤ k) && decide (k ≤ 8)
def mostM (kind : Int) : Int := if kind = 4 ∨ kind = 7 then 2 else if kind = 3 ∨ kind = 8 then 2 else 0
def openM : List PNode → Int → Int
  | [], o => if o = 0 then 0 else 1
  | x :: l, o => if o = 0 then 1 else openM l (if rtwo x.kind then o - 1 + 2 else o - 1)
def inK (x : PNode) : Bool := decide (0 ≤ x.kind) && decide (x.kind ≤ 8)
def inS (x : PNode) : Bool := decide (0 ≤ x.sig) && decide (x.sig ≤ mostM x.kind)
def rcheckP (p : List PNode) : Int :=
  if 14 < p.length then 2 else if p.all inK = false then 4 else if p.all inS = false then 3 else openM p 1

theorem inK_eq (x : PNode) : inK x = !badKind x := by rw [Bool.eq_iff_iff]; simp [inK, badKind]
theorem most_eq (k : Int) : mostM k = signsM k - 1 := by unfold mostM signsM; repeat' split
                                                         all_goals rfl
theorem inS_eq (x : PNode) : inS x = !badSig x := by rw [Bool.eq_iff_iff]; simp [inS, badSig, most_eq]; omega
theorem all_not {α : Type} (f g : α → Bool) (h : ∀ x, f x = !g x) (l : List α) : l.all f = !l.any g := by
  induction l with
  | nil => rfl
  | cons x l ih => simp [ih, h]
theorem rtwo_eq {k : Int} (h : k ≤ 8) : rtwo k = two k := by rw [Bool.eq_iff_iff]; simp [rtwo, two]; omega

theorem openM_eq (l : List PNode) (hk : l.any badKind = false) : ∀ n : Nat, openM l n = if skipN n l = some [] then 0 else 1 := by
  induction l with
  | nil => intro n; cases n <;> simp [openM, skipN]; omega
  | cons x l ih =>
    intro n
    simp only [List.any_cons, Bool.or_eq_false_iff] at hk
    have hx : x.kind ≤ 8 := by have := hk.1; simp [badKind] at this; omega
    cases n with
    | zero => simp [openM, skipN]
    | succ n =>
      have h0 : ¬ ((n + 1 : Nat) : Int) = 0 := by omega
      simp only [openM, h0, if_false, skipN, rtwo_eq hx]
      rw [show (if two x.kind = true then ((n + 1 : Nat) : Int) - 1 + 2 else ((n + 1 : Nat) : Int) - 1) = ((if two x.kind = true then n + 2 else n : Nat) : Int) from by split <;> omega]
      exact ih hk.2 _
theorem skip_all (p : List PNode) : (oneM p 0 = p.length) = (skipN 1 p = some []) := by
  simp only [oneM, Int.lt_irrefl, if_false, Int.toNat_zero, List.drop_zero]
  cases h : skipN 1 p with
  | none => simp
  | some r =>
    have := skip_lt h
    simp only [eq_iff_iff, Option.some.injEq]
    constructor
    · intro e; exact List.eq_nil_of_length_eq_zero (by omega)
    · rintro rfl; simp
theorem rcheckP_eq (p : List PNode) : rcheckP p = checkP p := by
  unfold rcheckP checkP
  rw [all_not inK badKind inK_eq, all_not inS badSig inS_eq]
  by_cases h1 : 14 < p.length
  · simp [h1]
  · cases hk : p.any badKind with
    | true => simp [h1]
    | false =>
      cases hs : p.any badSig with
      | true => simp [h1]
      | false =>
        have h : openM p 1 = _ := openM_eq p hk 1
        simp only [h1, if_false, Bool.not_false, Bool.false_eq_true]
        rw [if_neg (by simp), if_neg (by simp), h]
        have hsk := skip_all p
        by_cases hq : skipN 1 p = some []
        · rw [if_pos hq, if_neg (by rw [hsk.symm] at hq; simpa using hq)]
        · rw [if_neg hq, if_pos (by rw [hsk.symm] at hq; exact hq)]

theorem checkP_ok {p : List PNode} (h : checkP p = 0) : p.length ≤ 14 ∧ p.any badKind = false ∧ p.any badSig = false ∧ skipN 1 p = some [] := by
  unfold checkP at h
  by_cases h1 : 14 < p.length
  · simp [h1] at h
  · cases hk : p.any badKind with
    | true => simp [h1, hk] at h
    | false =>
      cases hs : p.any badSig with
      | true => simp [h1, hk, hs] at h
      | false =>
        by_cases hq : oneM p 0 = p.length
        · exact ⟨by omega, rfl, rfl, by rwa [skip_all] at hq⟩
        · simp [h1, hk, hs, hq] at h

/-- In a list that is a row of programs, a program stands at each place. -/
theorem skipN_some_drop (l : List PNode) : ∀ (n : Nat), skipN n l = some [] → ∀ k, k < l.length → ∃ r, skipN 1 (l.drop k) = some r := by
  induction l with
  | nil => intro n _ k hk; simp at hk
  | cons x l ih =>
    intro n h k hk
    cases n with
    | zero => simp [skipN] at h
    | succ n =>
      cases k with
      | zero =>
        rw [show n + 1 = 1 + n from by omega, skipN_add] at h
        cases hs : skipN 1 (x :: l) with
        | none => rw [hs] at h; simp at h
        | some r => exact ⟨r, by simpa using hs⟩
      | succ k => simp only [List.drop_succ_cons]; simp only [skipN] at h; exact ih _ h k (by simpa using hk)
theorem one_ok {p : List PNode} (h : checkP p = 0) {k : Nat} (hk : k < p.length) : (k : Int) < oneM p k ∧ oneM p k ≤ p.length := by
  obtain ⟨_, _, _, hs⟩ := checkP_ok h
  obtain ⟨r, hr⟩ := skipN_some_drop p 1 hs k hk
  have hlt := skip_lt hr
  have h0 : ¬ (k : Int) < 0 := by omega
  simp only [oneM, h0, if_false, Int.toNat_natCast, hr]
  simp at hlt
  omega

def playM : List PNode := [⟨5, 0⟩, ⟨6, 0⟩, ⟨5, 0⟩, ⟨4, 0⟩, ⟨3, 0⟩, ⟨5, 0⟩, ⟨1, 0⟩, ⟨3, 1⟩, ⟨5, 0⟩, ⟨1, 0⟩, ⟨8, 0⟩, ⟨3, 2⟩, ⟨2, 0⟩]
end Go.Proofs.Ytjagbnaacfhokaa
