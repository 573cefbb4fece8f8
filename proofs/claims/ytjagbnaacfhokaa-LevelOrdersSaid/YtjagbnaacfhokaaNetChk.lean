/- net.Check's deferred closure walked. -/
import Derived.Test.YtjagbnaacfhokaaNetLib
import Derived.Recover
namespace Go.Proofs.Ytjagbnaacfhokaa
set_option linter.unusedVariables false
set_option linter.unusedSimpArgs false
open Go.RowKit

theorem wpS_of_wp' {P : Program} {c : Code} {Q : Exit → Act → List Frame → World → Prop} {a : Act} {cs : List Frame} {w : World} (h : ∀ Q' : Exit → Act → World → Prop, (∀ e a' w', Q e a' cs w' → Q' e a' w') → c.wp P Q' a w) : c.wpS P Q a cs w :=
  wpS_of_wp (h _ fun _ _ _ h => h)

theorem assert_hit (v : Value) (w : World) : (Instr.typeAssert (.iface 127 v) 20 127 true).run Try.prog w = .ok (.tuple #[v, .bool true]) w := by
  simp [Instr.typeAssert, run_underlying Try.underlying127]
theorem assert_nil (w : World) : (Instr.typeAssert .nilIface 20 127 true).run Try.prog w = .ok (.tuple #[.agg #[.int .i64 0], .bool false]) w := by
  kernel_rfl

/-- The deferred closure, where something was thrown. -/
theorem catch_thrown (p : Addr) (e0 e : Int) (older : List PanicEntry) (w : World) (hc : w.cell? p = some (I e0)) (hz : w.frozen? p = false) (hp : p.block < w.heap.size) :
    CallsD Try.prog 112 #[.pointer (some p)] (.panicking ({ v := .iface 127 (.agg #[I e]), recovered := false } :: older)) w fun en u' w' =>
      en = .returned (.tuple #[]) ∧ u' = .panicking ({ v := .iface 127 (.agg #[I e]), recovered := true } :: older) ∧ w' = (w.alloc (.cells #[I e] 127)).setCell p (I e) := by
  have hc2 : ∀ o, (w.alloc o).cell? p = some (I e0) := fun o => (World.cell?_alloc_lt w o p hp).trans hc
  have hz2 : ∀ o, (w.alloc o).frozen? p = false := fun o => ((Below.alloc (Below.refl w.heap.size w) (Nat.le_refl _) o).frozen hp).trans hz
  have hta := assert_hit
  refine callsD_of_wpS Try.func112 rfl fun c₀ cs hu => ?_
  simp only [Try.ntmps112, List.size_toArray, List.length_cons, List.length_nil, Nat.reduceAdd, Nat.reduceSub, Array.replicate_succ, Array.replicate_zero, List.push_toArray, List.append_toArray, List.nil_append, List.cons_append]
  apply wpS_seq
  apply wpS_region
  simp [wpOpsS, go_sem, recoverD, hu, Exit.thenS]
  refine wpS_of_wp' fun Q hQ => ?_
  have HU := Lib.hid hu; clear hu
  go_wp2
  simp [bodyPostS, results, Try.results112]
theorem catch_idle (p : Addr) (w : World) :
    CallsD Try.prog 112 #[.pointer (some p)] .returning w fun e u' w' => e = .returned (.tuple #[]) ∧ u' = .returning ∧ w' = w.alloc (.cells #[I 0] 127) := by
  have hta := assert_nil
  refine callsD_of_wpS Try.func112 rfl fun c₀ cs hu => ?_
  simp only [Try.ntmps112, List.size_toArray, List.length_cons, List.length_nil, Nat.reduceAdd, Nat.reduceSub, Array.replicate_succ, Array.replicate_zero, List.push_toArray, List.append_toArray, List.nil_append, List.cons_append]
  apply wpS_seq
  apply wpS_region
  simp [wpOpsS, go_sem, recoverD, hu, Exit.thenS]
  refine wpS_of_wp' fun Q hQ => ?_
  have HU := Lib.hid hu; clear hu
  go_wp2
  have hu := HU.out
  cases c₀
  simp_all [bodyPostS, results, Try.results112]

/-- Check's door, behind a panic: what was thrown is handed back. -/
theorem door_panic (tmps : Array Value) (p : Addr) (e0 e : Int) (R : Ending → World → Prop) (w : World) (hc : w.cell? p = some (I e0)) (hz : w.frozen? p = false) (h2 : tmps.getD 2 undef = .pointer (some p))
    (hR : R (.returned (I e)) ((w.alloc (.cells #[I e] 127)).setCell p (I e))) :
    bodyPostD Try.prog Try.f66 R (Exit.panic [thrown e]) { tmps := tmps, defers := [{ target := .fn (.func 112) #[.pointer (some p)], args := #[] }] } w := by
  have hp := lt_of_cell hc
  have hc3 : ((w.alloc (.cells #[I e] 127)).setCell p (I e)).cell? p = some (I e) :=
    World.cell?_setCell_same _ _ _ ((World.cell?_alloc_lt w _ p hp).trans hc)
  refine leaves_cons (f := 112) (args := #[.pointer (some p)]) (by simp) (by simp [go_sem]) ?_
  refine (catch_thrown p e0 e [] _ hc hz hp).mono ?_
  rintro en u' w'' ⟨rfl, rfl, rfl⟩
  generalize (w.alloc (.cells #[I e] 127)).setCell p (I e) = W at hR hc3
  have h3 : tmps[2]?.getD undef = .pointer (some p) := by simpa using h2
  simp [Leaves, settle, results, Try.results66, go_sem, h2, h3, hc3, hR]
/-- Check's door, where nothing was thrown. -/
theorem door_ok (ex : Exit) (hex : ex = .ret ∨ ex = .normal) (tmps : Array Value) (p : Addr) (e : Int) (R : Ending → World → Prop) (w : World) (hc : w.cell? p = some (I e)) (h2 : tmps.getD 2 undef = .pointer (some p))
    (hR : R (.returned (I e)) (w.alloc (.cells #[I 0] 127))) :
    bodyPostD Try.prog Try.f66 R ex { tmps := tmps, defers := [{ target := .fn (.func 112) #[.pointer (some p)], args := #[] }] } w := by
  have hp := lt_of_cell hc
  have hc3 : (w.alloc (.cells #[I 0] 127)).cell? p = some (I e) := (World.cell?_alloc_lt w _ p hp).trans hc
  have h3 : tmps[2]?.getD undef = .pointer (some p) := by simpa using h2
  rcases hex with rfl | rfl
  all_goals
    refine leaves_cons (f := 112) (args := #[.pointer (some p)]) (by simp) (by simp [go_sem]) ?_
    refine (catch_idle p _).mono ?_
    rintro en u' w'' ⟨rfl, rfl, rfl⟩
    generalize w.alloc (.cells #[I 0] 127) = W at hR hc3
    simp [Leaves, settle, results, Try.results66, go_sem, h2, h3, hc3, hR]
end Go.Proofs.Ytjagbnaacfhokaa
