/- More words on memory: rows made shorter; an append a little beyond what came in. No program in sight. -/
import Derived.Test.YtgohhcnmkomafaaGreatDoorDz02
import Derived.Test.YtgohhcnmkomafaaGreatDoorChecked
namespace Go.Proofs.YtgohhcnmkomafaaGreatDoor
set_option linter.unusedVariables false
set_option linter.unusedSimpArgs false
set_option linter.unusedVariables false
set_option linter.unusedSimpArgs false
open Go.RowKit
theorem growslice_big {need old bytes : Nat} (h : old < need) (hb : need * bytes ≤ 140737489403904) (h8 : bytes ≤ 65536) : Builtin.nextslicecap need old * bytes ≤ 281474976710656 := by
  have h1 : Builtin.nextslicecap need old ≤ need + need / 4 + 1024 ∨ Builtin.nextslicecap need old ≤ 512 := by
    unfold Builtin.nextslicecap
    split
    · omega
    · split
      · omega
      · rw [growBy_four]
        repeat' split
        all_goals omega
  rcases h1 with h1 | h1
  · have h2 : Builtin.nextslicecap need old * bytes ≤ (need + need / 4 + 1024) * bytes := Nat.mul_le_mul_right _ h1
    have h3 : need / 4 * bytes ≤ need * bytes := Nat.mul_le_mul_right _ (Nat.div_le_self _ _)
    have h3' : need / 4 * bytes * 4 ≤ need * bytes := by rw [Nat.mul_right_comm]; exact Nat.mul_le_mul_right _ (Nat.div_mul_le_self _ _)
    have h4 : 1024 * bytes ≤ 67108864 := by omega
    rw [Nat.add_mul, Nat.add_mul] at h2
    omega
  · have h2 : Builtin.nextslicecap need old * bytes ≤ 512 * bytes := Nat.mul_le_mul_right _ h1
    omega
/-- One place of an own row is written; another own row stays. -/
theorem own_other {w : World} {base : Nat} {e : TypeId} {size n : Nat} {v : Value} {xs : List Value} (h : w.ownsRow base e size v n xs) {g j : Nat} {u : Value} (hg : v.ownBlock ≠ some g) : (w.setCell ⟨g, j, none⟩ u).ownsRow base e size v n xs := by
  refine h.kept (row := some g) ⟨rfl, rfl, rfl, by simp, fun k _ hk => heap_setCell_other w ⟨g, j, none⟩ k u (fun e => hk (by simp [e]))⟩ (.inr hg)
end Go.Proofs.YtgohhcnmkomafaaGreatDoor
/- Three values, in plain Lean: what each function computes, and that the program and the reference compute the same. No program in sight. -/
namespace Go.Proofs.YtgohhcnmkomafaaGreatDoor
set_option linter.unusedVariables false
set_option linter.unusedSimpArgs false
def bad3 (n : Int) : Bool := decide (n < 0) || decide (2 < n)
def gatherM (rules : Int) : List Int → Int → Int
  | [], out => out
  | v :: l, out => if v = rules then rules else gatherM rules l (if v = 2 then 2 else out)
def notM (v : Int) : Int := if v = 0 then 1 else if v = 1 then 0 else 2
def ofM (kind : Int) (l : List Int) : Int :=
  if kind = 4 then gatherM 0 l 1 else if kind = 5 then gatherM 1 l 0 else notM (l.headD 0)
def leqM : List Int → List Int → Bool
  | x :: a, y :: b => (decide (x = 2) || decide (x = y)) && leqM a b
  | _, _ => true
/-! the plain laws -/
theorem gatherM_eq (r : Int) (hr : r ≠ 2) (l : List Int) : ∀ out, gatherM r l out = if r ∈ l then r else if (2 : Int) ∈ l then 2 else out := by
  induction l with
  | nil => intro out; simp [gatherM]
  | cons x l ih =>
    intro out
    by_cases h : x = r
    · subst h; simp [gatherM]
    · have h' : ¬ r = x := fun e => h e.symm
      by_cases h2 : x = 2
      · subst h2; simp only [gatherM, if_neg h, if_true, ih]; simp [h']
      · have h2' : ¬ 2 = x := fun e => h2 e.symm
        simp only [gatherM, if_neg h, if_neg h2, ih]; simp [h', h2']
theorem good3 {x : Int} (h : bad3 x = false) : x = 0 ∨ x = 1 ∨ x = 2 := by simp [bad3] at h; omega
theorem notM_good (x : Int) : bad3 (notM x) = false := by
  unfold notM; split
  · rfl
  · split <;> rfl
theorem leqM_mem (r : Int) : ∀ xs ys : List Int, xs.length = ys.length → leqM xs ys = true → r ≠ 2 → r ∈ xs → r ∈ ys
  | [], _, _, _, _, h => by simp at h
  | x :: xs, [], hl, _, _, _ => by simp at hl
  | x :: xs, y :: ys, hl, h, hr, hm => by
    simp only [leqM, Bool.and_eq_true, Bool.or_eq_true, decide_eq_true_eq] at h
    rcases List.mem_cons.1 hm with e | e
    · subst e
      rcases h.1 with h1 | h1
      · exact absurd h1 hr
      · subst h1; simp
    · exact List.mem_cons_of_mem _ (leqM_mem r xs ys (by simpa using hl) h.2 hr e)
theorem leqM_open : ∀ xs ys : List Int, xs.length = ys.length → leqM xs ys = true → (2 : Int) ∉ xs → xs = ys
  | [], [], _, _, _ => rfl
  | [], y :: ys, hl, _, _ => by simp at hl
  | x :: xs, [], hl, _, _ => by simp at hl
  | x :: xs, y :: ys, hl, h, hm => by
    simp only [leqM, Bool.and_eq_true, Bool.or_eq_true, decide_eq_true_eq] at h
    have hx : ¬ x = 2 := fun e => hm (by simp [e])
    rcases h.1 with h1 | h1
    · exact absurd h1 hx
    · rw [h1, leqM_open xs ys (by simpa using hl) h.2 (fun e => hm (List.mem_cons_of_mem _ e))]
theorem leq_of (k : Int) (hk : k = 4 ∨ k = 5) (xs ys : List Int) (hl : xs.length = ys.length) (h : leqM xs ys = true) : ofM k xs = 2 ∨ ofM k xs = ofM k ys := by
  have h5 : ¬ (5 : Int) = 4 := by decide
  by_cases hm : (2 : Int) ∈ xs
  · rcases hk with rfl | rfl
    · by_cases h0 : (0 : Int) ∈ xs
      · right; have := leqM_mem 0 xs ys hl h (by decide) h0; simp [ofM, gatherM_eq 0, h0, this]
      · left; simp [ofM, gatherM_eq 0, h0, hm]
    · by_cases h0 : (1 : Int) ∈ xs
      · right; have := leqM_mem 1 xs ys hl h (by decide) h0; simp [ofM, gatherM_eq 1, h0, this]
      · left; simp [ofM, gatherM_eq 1, h0, hm]
  · right; rw [leqM_open xs ys hl h hm]
end Go.Proofs.YtgohhcnmkomafaaGreatDoor
/- The functions of three values (package tern, and the reference): each walked once. -/
namespace Go.Proofs.YtgohhcnmkomafaaGreatDoor
set_option linter.unusedVariables false
set_option linter.unusedSimpArgs false
open Go.RowKit
/-! gather -/
/-! IndexFunc, ContainsFunc, Check -/
/-! the reference -/
end Go.Proofs.YtgohhcnmkomafaaGreatDoor
/- choose: a place among n, from a raw number. -/
namespace Go.Proofs.YtgohhcnmkomafaaGreatDoor
set_option linter.unusedVariables false
set_option linter.unusedSimpArgs false
open Go.RowKit
end Go.Proofs.YtgohhcnmkomafaaGreatDoor
/- The reference's PartsOf and WaitsOf; play; what the begun check answers. -/
namespace Go.Proofs.YtgohhcnmkomafaaGreatDoor
set_option linter.unusedVariables false
set_option linter.unusedSimpArgs false
open Go.RowKit
theorem rcheck_any' (A : Option Addr) (n c : Nat) (p : List PNode) (w : World) (h : SlN w A n p) (hn : n ≤ maxLen) :
    Calls Tryz.prog 43 #[.slice A n c] w fun e w' => e = .returned (I (checkP p)) ∧ w = w' := by
  rw [← rcheckP_eq]; exact rcheck_any A n c p w h hn
end Go.Proofs.YtgohhcnmkomafaaGreatDoor
