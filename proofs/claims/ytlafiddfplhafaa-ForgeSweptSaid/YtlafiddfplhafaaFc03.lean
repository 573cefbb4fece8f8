/- The functions of three values (package tern, and the reference): each walked once. -/
import Derived.Test.YtlafiddfplhafaaChecked
import Derived.Test.YtlafiddfplhafaaFc01
import Derived.Recover
namespace Go.Proofs.Ytlafiddfplhafaa
set_option linter.unusedVariables false
set_option linter.unusedSimpArgs false
set_option linter.unusedVariables false
set_option linter.unusedSimpArgs false
open Go.RowKit
/-! gather -/
theorem gather_any (A : Option Addr) (n c : Nat) (xs : List Int) (rules none : Int) (w : World) (h : Sl w A n (xs.map I)) (hn : n ≤ maxLen) :
    Calls Try.prog 102 #[.slice A n c, I rules, I none] w fun e w' => e = .returned (I (gatherM rules xs none)) ∧ w = w' := by
  unfold maxLen at hn
  have H := Lib.hid h; clear h
  go_enter Try.func102, Try.ntmps102
  go_wp2
  go_loop [7, 13] (fun o i => ∃ (k : Nat) (out : Int), k ≤ n ∧ i = .int .i64 k ∧ o = .int .i64 out ∧ gatherM rules (xs.drop k) out = gatherM rules xs none) (fun _ i => n - (intOf i).toNat)
  case atStart => exact ⟨0, none, Nat.zero_le _, rfl, rfl, rfl⟩
  case round =>
    obtain ⟨k, out, hk, rfl, rfl, hM⟩ := hrel
    by_cases hlt : k < n
    · obtain ⟨b, off, x, rfl, hc, hd⟩ := H.out.next hlt
      rw [hd, gatherM] at hM
      have HM := Lib.hid hM; clear hM hd
      go_wp2
      · have hx : (x == rules) = true := by assumption
        go_ret; exact ⟨ret_int (by rw [← HM.out, if_pos (by simpa using hx)]), rfl⟩
      all_goals
        rename_i h1 h2
        have hx : ¬ x = rules := by simpa using h1
        go_round
        case rel => exact ⟨k + 1, _, by omega, by go_num, rfl, by rw [← HM.out, if_neg hx]; simp_all⟩
        case measure => simp [intOf]; omega
    · rw [H.out.drop_end hlt] at hM
      have HM := Lib.hid hM; clear hM
      go_wp2
      go_ret; exact ⟨ret_int HM.out, rfl⟩
/-! IndexFunc, ContainsFunc, Check -/
/-- What a function value answers of one number, in world w, nothing turned. -/
def Asks (P : Program) (g : FuncId) (caps : Array Value) (w : World) (q : Int → Bool) : Prop :=
  (∀ args W, (callFunc g args).run P W = .ok (.enter g args) W) ∧ ∀ x, Calls P g (#[I x] ++ caps) w fun e w' => e = .returned (.bool (q x)) ∧ w = w'
theorem indexFunc_any (A : Option Addr) (n c : Nat) (xs : List Int) (g : FuncId) (caps : Array Value) (q : Int → Bool) (w : World) (h : Sl w A n (xs.map I)) (hn : n ≤ maxLen) (hq : Asks Try.prog g caps w q) :
    Calls Try.prog 92 #[.slice A n c, .func (.func g) #[] caps] w fun e w' => e = .returned (I (indexM q xs 0)) ∧ w = w' := by
  unfold maxLen at hn
  have H := Lib.hid h; clear h
  have HQ := Lib.hid hq; clear hq
  go_enter Try.func92, Try.ntmps92
  go_wp2
  go_loop [8] (fun i => ∃ (k : Nat), k ≤ n ∧ i = .int .i64 k ∧ indexM q (xs.drop k) k = indexM q xs 0) (fun i => n - (intOf i).toNat)
  case atStart => exact ⟨0, Nat.zero_le _, rfl, rfl⟩
  case round =>
    obtain ⟨k, hk, rfl, hM⟩ := hrel
    by_cases hlt : k < n
    · obtain ⟨b, off, x, rfl, hc, hd⟩ := H.out.next hlt
      rw [hd, indexM] at hM
      have HM := Lib.hid hM; clear hM hd
      have hcf := HQ.out.1
      by_cases hqx : q x = true
      all_goals
        go_wp2_with (refine (HQ.out.2 x).mono ?_; rintro e w' ⟨rfl, rfl⟩)
      · go_ret; exact ⟨ret_int (by rw [← HM.out, if_pos hqx]), rfl⟩
      · go_round
        case rel => exact ⟨k + 1, by omega, by go_num, by rw [← HM.out, if_neg hqx]; simp⟩
        case measure => simp [intOf]; omega
    · rw [H.out.drop_end hlt, indexM] at hM
      have HM := Lib.hid hM; clear hM
      go_wp2
      go_ret; exact ⟨ret_int HM.out, rfl⟩
theorem containsFunc_any (A : Option Addr) (n c : Nat) (xs : List Int) (g : FuncId) (caps : Array Value) (q : Int → Bool) (w : World) (h : Sl w A n (xs.map I)) (hn : n ≤ maxLen) (hq : Asks Try.prog g caps w q) :
    Calls Try.prog 64 #[.slice A n c, .func (.func g) #[] caps] w fun e w' => e = .returned (.bool (xs.any q)) ∧ w = w' := by
  have H := Lib.hid h; clear h
  have HQ := Lib.hid hq; clear hq
  have HM := Lib.hid (indexM_lo q xs 0 (Int.le_refl _))
  go_enter Try.func64, Try.ntmps64
  go_wp2_with (go_at_call 92; refine (indexFunc_any A n c xs g caps q w H.out hn HQ.out).mono ?_; rintro e w' ⟨rfl, rfl⟩)
  go_ret; exact ⟨ret_bool HM.out, rfl⟩
theorem ofAll_any (A : Option Addr) (n c : Nat) (xs : List Int) (w : World) (h : Sl w A n (xs.map I)) (hn : n ≤ maxLen) :
    Calls Try.prog 101 #[I 4, .slice A n c] w fun e w' => e = .returned (I (ofM 4 xs)) ∧ w = w' := by
  have H := Lib.hid h; clear h
  go_enter Try.func101, Try.ntmps101
  go_wp2_with (go_at_call 102; refine (gather_any A n c xs _ _ w H.out hn).mono ?_; rintro e w' ⟨rfl, rfl⟩)
  go_ret; exact ⟨rfl, rfl⟩
theorem ofAny_any (A : Option Addr) (n c : Nat) (xs : List Int) (w : World) (h : Sl w A n (xs.map I)) (hn : n ≤ maxLen) :
    Calls Try.prog 101 #[I 5, .slice A n c] w fun e w' => e = .returned (I (ofM 5 xs)) ∧ w = w' := by
  have H := Lib.hid h; clear h
  go_enter Try.func101, Try.ntmps101
  go_wp2_with (go_at_call 102; refine (gather_any A n c xs _ _ w H.out hn).mono ?_; rintro e w' ⟨rfl, rfl⟩)
  go_ret; exact ⟨rfl, rfl⟩
theorem ofNot_any (A : Option Addr) (n c : Nat) (x : Int) (xs : List Int) (w : World) (h : Sl w A n ((x :: xs).map I)) (hn : n ≤ maxLen) (hx : bad3 x = false) :
    Calls Try.prog 101 #[I 6, .slice A n c] w fun e w' => e = .returned (I (ofM 6 (x :: xs))) ∧ w = w' := by
  have hlen : 0 < n := by have := h.len; simp at this; omega
  obtain ⟨b, off, y, rfl, hc, hy⟩ := h.at_ hlen
  simp at hy; subst hy
  have hc0 : w.cell? ⟨b, off, none⟩ = some (I x) := hc
  have H := Lib.hid h; clear h hc
  have hx3 : x = 0 ∨ x = 1 ∨ x = 2 := by simp [bad3] at hx; omega
  clear hx
  have i0 : ∀ w, (Instr.index 166 (.agg #[.int .i64 1, .int .i64 0, .int .i64 2]) (.int .i64 0)).run Try.prog w = .ok (.int .i64 1) w := fun _ => by kernel_rfl
  have i1 : ∀ w, (Instr.index 166 (.agg #[.int .i64 1, .int .i64 0, .int .i64 2]) (.int .i64 1)).run Try.prog w = .ok (.int .i64 0) w := fun _ => by kernel_rfl
  have i2 : ∀ w, (Instr.index 166 (.agg #[.int .i64 1, .int .i64 0, .int .i64 2]) (.int .i64 2)).run Try.prog w = .ok (.int .i64 2) w := fun _ => by kernel_rfl
  rcases hx3 with rfl | rfl | rfl
  all_goals
    go_enter Try.func101, Try.ntmps101
    go_wp2
    go_ret; exact ⟨rfl, rfl⟩
/-! the reference -/
end Go.Proofs.Ytlafiddfplhafaa
/- net.Check's deferred closure walked. -/
namespace Go.Proofs.Ytlafiddfplhafaa
set_option linter.unusedVariables false
set_option linter.unusedSimpArgs false
open Go.RowKit
theorem wpS_of_wp' {P : Program} {c : Code} {Q : Exit → Act → List Frame → World → Prop} {a : Act} {cs : List Frame} {w : World} (h : ∀ Q' : Exit → Act → World → Prop, (∀ e a' w', Q e a' cs w' → Q' e a' w') → c.wp P Q' a w) : c.wpS P Q a cs w :=
  wpS_of_wp (h _ fun _ _ _ h => h)
theorem assert_hit (v : Value) (w : World) : (Instr.typeAssert (.iface 91 v) 20 91 true).run Try.prog w = .ok (.tuple #[v, .bool true]) w := by
  simp [Instr.typeAssert, run_underlying Try.underlying91]
theorem assert_nil (w : World) : (Instr.typeAssert .nilIface 20 91 true).run Try.prog w = .ok (.tuple #[.agg #[.int .i64 0], .bool false]) w := by
  kernel_rfl
/-- The deferred closure, where something was thrown. -/
theorem catch_thrown (p : Addr) (e0 e : Int) (older : List PanicEntry) (w : World) (hc : w.cell? p = some (I e0)) (hz : w.frozen? p = false) (hp : p.block < w.heap.size) :
    CallsD Try.prog 46 #[.pointer (some p)] (.panicking ({ v := .iface 91 (.agg #[I e]), recovered := false } :: older)) w fun en u' w' =>
      en = .returned (.tuple #[]) ∧ u' = .panicking ({ v := .iface 91 (.agg #[I e]), recovered := true } :: older) ∧ w' = (w.alloc (.cells #[I e] 91)).setCell p (I e) := by
  have hc2 : ∀ o, (w.alloc o).cell? p = some (I e0) := fun o => (World.cell?_alloc_lt w o p hp).trans hc
  have hz2 : ∀ o, (w.alloc o).frozen? p = false := fun o => ((Below.alloc (Below.refl w.heap.size w) (Nat.le_refl _) o).frozen hp).trans hz
  have hta := assert_hit
  refine callsD_of_wpS Try.func46 rfl fun c₀ cs hu => ?_
  simp only [Try.ntmps46, List.size_toArray, List.length_cons, List.length_nil, Nat.reduceAdd, Nat.reduceSub, Array.replicate_succ, Array.replicate_zero, List.push_toArray, List.append_toArray, List.nil_append, List.cons_append]
  apply wpS_seq
  apply wpS_region
  simp [wpOpsS, go_sem, recoverD, hu, Exit.thenS]
  refine wpS_of_wp' fun Q hQ => ?_
  have HU := Lib.hid hu; clear hu
  go_wp2
  simp [bodyPostS, results, Try.results46]
theorem catch_idle (p : Addr) (w : World) :
    CallsD Try.prog 46 #[.pointer (some p)] .returning w fun e u' w' => e = .returned (.tuple #[]) ∧ u' = .returning ∧ w' = w.alloc (.cells #[I 0] 91) := by
  have hta := assert_nil
  refine callsD_of_wpS Try.func46 rfl fun c₀ cs hu => ?_
  simp only [Try.ntmps46, List.size_toArray, List.length_cons, List.length_nil, Nat.reduceAdd, Nat.reduceSub, Array.replicate_succ, Array.replicate_zero, List.push_toArray, List.append_toArray, List.nil_append, List.cons_append]
  apply wpS_seq
  apply wpS_region
  simp [wpOpsS, go_sem, recoverD, hu, Exit.thenS]
  refine wpS_of_wp' fun Q hQ => ?_
  have HU := Lib.hid hu; clear hu
  go_wp2
  have hu := HU.out
  cases c₀
  simp_all [bodyPostS, results, Try.results46]
/-- Check's door, behind a panic: what was thrown is handed back. -/
theorem door_panic (tmps : Array Value) (p : Addr) (e0 e : Int) (R : Ending → World → Prop) (w : World) (hc : w.cell? p = some (I e0)) (hz : w.frozen? p = false) (h2 : tmps.getD 2 undef = .pointer (some p))
    (hR : R (.returned (I e)) ((w.alloc (.cells #[I e] 91)).setCell p (I e))) :
    bodyPostD Try.prog Try.f17 R (Exit.panic [thrown e]) { tmps := tmps, defers := [{ target := .fn (.func 46) #[.pointer (some p)], args := #[] }] } w := by
  have hp := lt_of_cell hc
  have hc3 : ((w.alloc (.cells #[I e] 91)).setCell p (I e)).cell? p = some (I e) :=
    World.cell?_setCell_same _ _ _ ((World.cell?_alloc_lt w _ p hp).trans hc)
  refine leaves_cons (f := 46) (args := #[.pointer (some p)]) (by simp) (by simp [go_sem]) ?_
  refine (catch_thrown p e0 e [] _ hc hz hp).mono ?_
  rintro en u' w'' ⟨rfl, rfl, rfl⟩
  generalize (w.alloc (.cells #[I e] 91)).setCell p (I e) = W at hR hc3
  have h3 : tmps[2]?.getD undef = .pointer (some p) := by simpa using h2
  simp [Leaves, settle, results, Try.results17, go_sem, h2, h3, hc3, hR]
/-- Check's door, where nothing was thrown. -/
theorem door_ok (ex : Exit) (hex : ex = .ret ∨ ex = .normal) (tmps : Array Value) (p : Addr) (e : Int) (R : Ending → World → Prop) (w : World) (hc : w.cell? p = some (I e)) (h2 : tmps.getD 2 undef = .pointer (some p))
    (hR : R (.returned (I e)) (w.alloc (.cells #[I 0] 91))) :
    bodyPostD Try.prog Try.f17 R ex { tmps := tmps, defers := [{ target := .fn (.func 46) #[.pointer (some p)], args := #[] }] } w := by
  have hp := lt_of_cell hc
  have hc3 : (w.alloc (.cells #[I 0] 91)).cell? p = some (I e) := (World.cell?_alloc_lt w _ p hp).trans hc
  have h3 : tmps[2]?.getD undef = .pointer (some p) := by simpa using h2
  rcases hex with rfl | rfl
  all_goals
    refine leaves_cons (f := 46) (args := #[.pointer (some p)]) (by simp) (by simp [go_sem]) ?_
    refine (catch_idle p _).mono ?_
    rintro en u' w'' ⟨rfl, rfl, rfl⟩
    generalize w.alloc (.cells #[I 0] 91) = W at hR hc3
    simp [Leaves, settle, results, Try.results17, go_sem, h2, h3, hc3, hR]
end Go.Proofs.Ytlafiddfplhafaa
