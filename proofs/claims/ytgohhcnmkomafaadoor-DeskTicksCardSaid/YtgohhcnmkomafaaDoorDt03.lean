/- More words on memory: rows made shorter; an append a little beyond what came in. No program in sight. -/
import Derived.Test.YtgohhcnmkomafaaDoorDt02
import Derived.Test.YtgohhcnmkomafaaDoorChecked
namespace Go.Proofs.YtgohhcnmkomafaaDoor
set_option linter.unusedVariables false
set_option linter.unusedSimpArgs false
set_option linter.unusedVariables false
set_option linter.unusedSimpArgs false
open Go.RowKit
theorem growslice_big {need old bytes : Nat} (h : old < need) (hb : need * bytes ≤ 140737489403904) (h8 : bytes ≤ 65536) : Builtin.nextslicecap need old * bytes ≤ 281474976710656 := by
  have h1 : Builtin.nextslicecap need old ≤ need + need / 4 + 1024 ∨ Builtin.nextslicecap need old ≤ 512 := by
    unfold Builtin.nextslicecap
    split
    · omega
    · split
      · omega
      · rw [growBy_four]
        repeat' split
        all_goals omega
  rcases h1 with h1 | h1
  · have h2 : Builtin.nextslicecap need old * bytes ≤ (need + need / 4 + 1024) * bytes := Nat.mul_le_mul_right _ h1
    have h3 : need / 4 * bytes ≤ need * bytes := Nat.mul_le_mul_right _ (Nat.div_le_self _ _)
    have h3' : need / 4 * bytes * 4 ≤ need * bytes := by rw [Nat.mul_right_comm]; exact Nat.mul_le_mul_right _ (Nat.div_mul_le_self _ _)
    have h4 : 1024 * bytes ≤ 67108864 := by omega
    rw [Nat.add_mul, Nat.add_mul] at h2
    omega
  · have h2 : Builtin.nextslicecap need old * bytes ≤ 512 * bytes := Nat.mul_le_mul_right _ h1
    omega
/-- One place of an own row is written; another own row stays. -/
theorem own_other {w : World} {base : Nat} {e : TypeId} {size n : Nat} {v : Value} {xs : List Value} (h : w.ownsRow base e size v n xs) {g j : Nat} {u : Value} (hg : v.ownBlock ≠ some g) : (w.setCell ⟨g, j, none⟩ u).ownsRow base e size v n xs := by
  refine h.kept (row := some g) ⟨rfl, rfl, rfl, by simp, fun k _ hk => heap_setCell_other w ⟨g, j, none⟩ k u (fun e => hk (by simp [e]))⟩ (.inr hg)
end Go.Proofs.YtgohhcnmkomafaaDoor
/- Three values, in plain Lean: what each function computes, and that the program and the reference compute the same. No program in sight. -/
namespace Go.Proofs.YtgohhcnmkomafaaDoor
set_option linter.unusedVariables false
set_option linter.unusedSimpArgs false
def bad3 (n : Int) : Bool := decide (n < 0) || decide (2 < n)
def gatherM (rules : Int) : List Int → Int → Int
  | [], out => out
  | v :: l, out => if v = rules then rules else gatherM rules l (if v = 2 then 2 else out)
def indexM (q : Int → Bool) : List Int → Int → Int
  | [], _ => -1
  | x :: l, k => if q x then k else indexM q l (k + 1)
theorem indexM_lo (q : Int → Bool) (l : List Int) : ∀ k : Int, 0 ≤ k → decide (0 ≤ indexM q l k) = l.any q := by
  induction l with
  | nil => intro k _; simp [indexM]
  | cons x l ih =>
    intro k hk
    by_cases h : q x = true
    · simp [indexM, h, hk]
    · simp only [indexM, h, List.any_cons]; simpa using ih (k + 1) (by omega)
def notM (v : Int) : Int := if v = 0 then 1 else if v = 1 then 0 else 2
def ofM (kind : Int) (l : List Int) : Int :=
  if kind = 4 then gatherM 0 l 1 else if kind = 5 then gatherM 1 l 0 else notM (l.headD 0)
def leqM : List Int → List Int → Bool
  | x :: a, y :: b => (decide (x = 2) || decide (x = y)) && leqM a b
  | _, _ => true
/-! the plain laws -/
theorem gatherM_eq (r : Int) (hr : r ≠ 2) (l : List Int) : ∀ out, gatherM r l out = if r ∈ l then r else if (2 : Int) ∈ l then 2 else out := by
  induction l with
  | nil => intro out; simp [gatherM]
  | cons x l ih =>
    intro out
    by_cases h : x = r
    · subst h; simp [gatherM]
    · have h' : ¬ r = x := fun e => h e.symm
      by_cases h2 : x = 2
      · subst h2; simp only [gatherM, if_neg h, if_true, ih]; simp [h']
      · have h2' : ¬ 2 = x := fun e => h2 e.symm
        simp only [gatherM, if_neg h, if_neg h2, ih]; simp [h', h2']
theorem good3 {x : Int} (h : bad3 x = false) : x = 0 ∨ x = 1 ∨ x = 2 := by simp [bad3] at h; omega
theorem notM_good (x : Int) : bad3 (notM x) = false := by
  unfold notM; split
  · rfl
  · split <;> rfl
theorem leqM_mem (r : Int) : ∀ xs ys : List Int, xs.length = ys.length → leqM xs ys = true → r ≠ 2 → r ∈ xs → r ∈ ys
  | [], _, _, _, _, h => by simp at h
  | x :: xs, [], hl, _, _, _ => by simp at hl
  | x :: xs, y :: ys, hl, h, hr, hm => by
    simp only [leqM, Bool.and_eq_true, Bool.or_eq_true, decide_eq_true_eq] at h
    rcases List.mem_cons.1 hm with e | e
    · subst e
      rcases h.1 with h1 | h1
      · exact absurd h1 hr
      · subst h1; simp
    · exact List.mem_cons_of_mem _ (leqM_mem r xs ys (by simpa using hl) h.2 hr e)
theorem leqM_open : ∀ xs ys : List Int, xs.length = ys.length → leqM xs ys = true → (2 : Int) ∉ xs → xs = ys
  | [], [], _, _, _ => rfl
  | [], y :: ys, hl, _, _ => by simp at hl
  | x :: xs, [], hl, _, _ => by simp at hl
  | x :: xs, y :: ys, hl, h, hm => by
    simp only [leqM, Bool.and_eq_true, Bool.or_eq_true, decide_eq_true_eq] at h
    have hx : ¬ x = 2 := fun e => hm (by simp [e])
    rcases h.1 with h1 | h1
    · exact absurd h1 hx
    · rw [h1, leqM_open xs ys (by simpa using hl) h.2 (fun e => hm (List.mem_cons_of_mem _ e))]
theorem leq_of (k : Int) (hk : k = 4 ∨ k = 5) (xs ys : List Int) (hl : xs.length = ys.length) (h : leqM xs ys = true) : ofM k xs = 2 ∨ ofM k xs = ofM k ys := by
  have h5 : ¬ (5 : Int) = 4 := by decide
  by_cases hm : (2 : Int) ∈ xs
  · rcases hk with rfl | rfl
    · by_cases h0 : (0 : Int) ∈ xs
      · right; have := leqM_mem 0 xs ys hl h (by decide) h0; simp [ofM, gatherM_eq 0, h0, this]
      · left; simp [ofM, gatherM_eq 0, h0, hm]
    · by_cases h0 : (1 : Int) ∈ xs
      · right; have := leqM_mem 1 xs ys hl h (by decide) h0; simp [ofM, gatherM_eq 1, h0, this]
      · left; simp [ofM, gatherM_eq 1, h0, hm]
  · right; rw [leqM_open xs ys hl h hm]
end Go.Proofs.YtgohhcnmkomafaaDoor
/- The functions of three values (package tern, and the reference): each walked once. -/
namespace Go.Proofs.YtgohhcnmkomafaaDoor
set_option linter.unusedVariables false
set_option linter.unusedSimpArgs false
open Go.RowKit
/-! gather -/
/-! IndexFunc, ContainsFunc, Check -/
/-- What a function value answers of one number, in world w, nothing turned. -/
def Asks (P : Program) (g : FuncId) (caps : Array Value) (w : World) (q : Int → Bool) : Prop :=
  (∀ args W, (callFunc g args).run P W = .ok (.enter g args) W) ∧ ∀ x, Calls P g (#[I x] ++ caps) w fun e w' => e = .returned (.bool (q x)) ∧ w = w'
theorem indexFunc_any (A : Option Addr) (n c : Nat) (xs : List Int) (g : FuncId) (caps : Array Value) (q : Int → Bool) (w : World) (h : Sl w A n (xs.map I)) (hn : n ≤ maxLen) (hq : Asks Tryd.prog g caps w q) :
    Calls Tryd.prog 51 #[.slice A n c, .func (.func g) #[] caps] w fun e w' => e = .returned (I (indexM q xs 0)) ∧ w = w' := by
  unfold maxLen at hn
  have H := Lib.hid h; clear h
  have HQ := Lib.hid hq; clear hq
  go_enter Tryd.func51, Tryd.ntmps51
  go_wp2
  go_loop [8] (fun i => ∃ (k : Nat), k ≤ n ∧ i = .int .i64 k ∧ indexM q (xs.drop k) k = indexM q xs 0) (fun i => n - (intOf i).toNat)
  case atStart => exact ⟨0, Nat.zero_le _, rfl, rfl⟩
  case round =>
    obtain ⟨k, hk, rfl, hM⟩ := hrel
    by_cases hlt : k < n
    · obtain ⟨b, off, x, rfl, hc, hd⟩ := H.out.next hlt
      rw [hd, indexM] at hM
      have HM := Lib.hid hM; clear hM hd
      have hcf := HQ.out.1
      by_cases hqx : q x = true
      all_goals
        go_wp2_with (refine (HQ.out.2 x).mono ?_; rintro e w' ⟨rfl, rfl⟩)
      · go_ret; exact ⟨ret_int (by rw [← HM.out, if_pos hqx]), rfl⟩
      · go_round
        case rel => exact ⟨k + 1, by omega, by go_num, by rw [← HM.out, if_neg hqx]; simp⟩
        case measure => simp [intOf]; omega
    · rw [H.out.drop_end hlt, indexM] at hM
      have HM := Lib.hid hM; clear hM
      go_wp2
      go_ret; exact ⟨ret_int HM.out, rfl⟩
theorem containsFunc_any (A : Option Addr) (n c : Nat) (xs : List Int) (g : FuncId) (caps : Array Value) (q : Int → Bool) (w : World) (h : Sl w A n (xs.map I)) (hn : n ≤ maxLen) (hq : Asks Tryd.prog g caps w q) :
    Calls Tryd.prog 30 #[.slice A n c, .func (.func g) #[] caps] w fun e w' => e = .returned (.bool (xs.any q)) ∧ w = w' := by
  have H := Lib.hid h; clear h
  have HQ := Lib.hid hq; clear hq
  have HM := Lib.hid (indexM_lo q xs 0 (Int.le_refl _))
  go_enter Tryd.func30, Tryd.ntmps30
  go_wp2_with (go_at_call 51; refine (indexFunc_any A n c xs g caps q w H.out hn HQ.out).mono ?_; rintro e w' ⟨rfl, rfl⟩)
  go_ret; exact ⟨ret_bool HM.out, rfl⟩
/-! the reference -/
end Go.Proofs.YtgohhcnmkomafaaDoor
/- choose: a place among n, from a raw number. -/
namespace Go.Proofs.YtgohhcnmkomafaaDoor
set_option linter.unusedVariables false
set_option linter.unusedSimpArgs false
open Go.RowKit
end Go.Proofs.YtgohhcnmkomafaaDoor
/- The reference's PartsOf and WaitsOf; play; what the begun check answers. -/
namespace Go.Proofs.YtgohhcnmkomafaaDoor
set_option linter.unusedVariables false
set_option linter.unusedSimpArgs false
open Go.RowKit
end Go.Proofs.YtgohhcnmkomafaaDoor
