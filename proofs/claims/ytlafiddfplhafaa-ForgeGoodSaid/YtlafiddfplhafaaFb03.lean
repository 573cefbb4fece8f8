/- How a net lies in memory; must, and what is left by a panic. -/
import Derived.Test.YtlafiddfplhafaaChecked
import Derived.Test.YtlafiddfplhafaaFb02
import Derived.Test.YtlafiddfplhafaaFb01
import Derived.Recover
import Derived.Deep.RegionHeld3
import Derived.Deep.DrawnRows
import Derived.StillTailTactics
namespace Go.Proofs.Ytlafiddfplhafaa
set_option linter.unusedVariables false
set_option linter.unusedSimpArgs false
set_option linter.unusedVariables false
set_option linter.unusedSimpArgs false
open Go.RowKit
/-- A slice of gates, three cells each. -/
def SlG (w : World) (A : Option Addr) (n : Nat) (gs : List GateM) : Prop :=
  gs.length = n ∧ ∀ k g, gs[k]? = some g → ∃ b off A' m c, A = some ⟨b, off, none⟩ ∧ w.cell? ⟨b, off + k * 3, none⟩ = some (I g.kind) ∧ w.cell? ⟨b, off + k * 3 + 1, none⟩ = some (I g.num) ∧
    w.cell? ⟨b, off + k * 3 + 2, none⟩ = some (.slice A' m c) ∧ Sl w A' m (g.args.map I) ∧ m ≤ c ∧ c ≤ maxLen
abbrev RB (r : StoreM) : Value := Bv r.fst
abbrev RN (r : StoreM) : Value := I r.next
abbrev SlR := Sl2 RB RN
theorem SlG.keep {w w' : World} {A : Option Addr} {n : Nat} {gs : List GateM} (h : SlG w A n gs) (hk : Keeps w w') : SlG w' A n gs :=
  ⟨h.1, fun k g hg => let ⟨b, o, A', m, c, e, h0, h1, h2, h3, h4, h5⟩ := h.2 k g hg; ⟨b, o, A', m, c, e, hk _ _ h0, hk _ _ h1, hk _ _ h2, h3.keep hk, h4, h5⟩⟩
theorem SlG.next {w : World} {A : Option Addr} {n : Nat} {gs : List GateM} (h : SlG w A n gs) {k : Nat} (hk : k < n) :
    ∃ b off A' m c g, A = some ⟨b, off, none⟩ ∧ w.cell? ⟨b, off + k * 3, none⟩ = some (I g.kind) ∧ w.cell? ⟨b, off + k * 3 + 1, none⟩ = some (I g.num) ∧
    w.cell? ⟨b, off + k * 3 + 2, none⟩ = some (.slice A' m c) ∧ Sl w A' m (g.args.map I) ∧ m ≤ c ∧ c ≤ maxLen ∧ gs.drop k = g :: gs.drop (k + 1) ∧ gs[k]? = some g := by
  have hl : k < gs.length := by have := h.1; omega
  obtain ⟨b, off, A', m, c, e, r⟩ := h.2 k gs[k] (List.getElem?_eq_getElem hl)
  exact ⟨b, off, A', m, c, gs[k], e, r.1, r.2.1, r.2.2.1, r.2.2.2.1, r.2.2.2.2.1, r.2.2.2.2.2, List.drop_eq_getElem_cons hl, List.getElem?_eq_getElem hl⟩
theorem SlG.drop_end {w : World} {A : Option Addr} {n : Nat} {gs : List GateM} (h : SlG w A n gs) {k : Nat} (hk : ¬ k < n) : gs.drop k = [] := by
  have := h.1; exact List.drop_eq_nil_of_le (by omega)
/-- The four cells of a net that reads as N. -/
structure NetC (w : World) (i : Int) (GA : Option Addr) (gn gc : Nat) (RA : Option Addr) (rn rc : Nat) (OA : Option Addr) (on oc : Nat) (N : NetM) : Prop where
  ins : i = N.ins
  gates : SlG w GA gn N.gates
  regs : SlR w RA rn N.regs
  outs : Sl w OA on (N.outs.map I)
  gl : gn ≤ gc ∧ gc ≤ maxLen
  rl : rn ≤ rc ∧ rc ≤ maxLen
  ol : on ≤ oc ∧ oc ≤ maxLen
theorem NetC.keep {w w' : World} {i : Int} {GA : Option Addr} {gn gc : Nat} {RA : Option Addr} {rn rc : Nat} {OA : Option Addr} {on oc : Nat} {N : NetM} (h : NetC w i GA gn gc RA rn rc OA on oc N) (hk : Keeps w w') : NetC w' i GA gn gc RA rn rc OA on oc N :=
  ⟨h.ins, h.gates.keep hk, h.regs.keep hk, h.outs.keep hk, h.gl, h.rl, h.ol⟩
/-- A net, as a value. -/
abbrev netV (i : Int) (GA : Option Addr) (gn gc : Nat) (RA : Option Addr) (rn rc : Nat) (OA : Option Addr) (on oc : Nat) : Value :=
  .agg #[I i, .slice GA gn gc, .slice RA rn rc, .slice OA on oc]
/-- A net laid in a block of its own. -/
def NetBox (w : World) (b : Nat) (i : Int) (GA : Option Addr) (gn gc : Nat) (RA : Option Addr) (rn rc : Nat) (OA : Option Addr) (on oc : Nat) : Prop :=
  w.cell? ⟨b, 0, none⟩ = some (I i) ∧ w.cell? ⟨b, 1, none⟩ = some (.slice GA gn gc) ∧ w.cell? ⟨b, 2, none⟩ = some (.slice RA rn rc) ∧ w.cell? ⟨b, 3, none⟩ = some (.slice OA on oc)
theorem NetBox.keep {w w' : World} {b : Nat} {i : Int} {GA : Option Addr} {gn gc : Nat} {RA : Option Addr} {rn rc : Nat} {OA : Option Addr} {on oc : Nat} (h : NetBox w b i GA gn gc RA rn rc OA on oc) (hk : Keeps w w') : NetBox w' b i GA gn gc RA rn rc OA on oc :=
  ⟨hk _ _ h.1, hk _ _ h.2.1, hk _ _ h.2.2.1, hk _ _ h.2.2.2⟩
theorem NetBox.new (w : World) (i : Int) (GA : Option Addr) (gn gc : Nat) (RA : Option Addr) (rn rc : Nat) (OA : Option Addr) (on oc : Nat) (T : TypeId) : NetBox (w.alloc (.cells #[I i, .slice GA gn gc, .slice RA rn rc, .slice OA on oc] T)) w.heap.size i GA gn gc RA rn rc OA on oc :=
  ⟨by rw [World.cell?_alloc_new]; rfl, by rw [World.cell?_alloc_new]; rfl, by rw [World.cell?_alloc_new]; rfl, by rw [World.cell?_alloc_new]; rfl⟩
def indexB (v : Bool) : List Bool → Int → Int
  | [], _ => -1
  | x :: l, k => if x = v then k else indexB v l (k + 1)
theorem indexB_lo (v : Bool) (l : List Bool) : ∀ k : Int, 0 ≤ k → decide (0 ≤ indexB v l k) = l.contains v := by
  induction l with
  | nil => intro k _; simp [indexB]
  | cons x l ih =>
    intro k hk
    by_cases h : x = v
    · subst h; simp [indexB, hk]
    · have h' : ¬ v = x := fun e => h e.symm
      simp only [indexB, if_neg h, ih (k + 1) (by omega), List.contains_cons]
      simp [h']
theorem indexBool_any (A : Option Addr) (n c : Nat) (xs : List Bool) (v : Bool) (w : World) (h : Sl w A n (xs.map Bv)) (hn : n ≤ maxLen) :
    Calls Try.prog 98 #[.slice A n c, Bv v] w fun e w' => e = .returned (I (indexB v xs 0)) ∧ w = w' := by
  unfold maxLen at hn
  have H := Lib.hid h; clear h
  go_enter Try.func98, Try.ntmps98
  go_wp2
  go_loop [8] (fun i => ∃ (k : Nat), k ≤ n ∧ i = .int .i64 k ∧ indexB v (xs.drop k) k = indexB v xs 0) (fun i => n - (intOf i).toNat)
  case atStart => exact ⟨0, Nat.zero_le _, rfl, rfl⟩
  case round =>
    obtain ⟨k, hk, rfl, hM⟩ := hrel
    by_cases hlt : k < n
    · obtain ⟨b, off, x, rfl, hc, hd⟩ := H.out.next hlt
      rw [hd, indexB] at hM
      have HM := Lib.hid hM; clear hM hd
      by_cases hx : x = v
      · subst hx
        go_wp2
        go_ret; exact ⟨ret_int (by rw [← HM.out]; simp), rfl⟩
      · have g : (v == x) = false := by simpa using fun e => hx (Eq.symm e)
        have HX := Lib.hid hx; clear hx
        go_wp2
        go_round
        case rel => exact ⟨k + 1, by omega, by go_num, by rw [← HM.out, if_neg HX.out]; simp⟩
        case measure => simp [intOf]; omega
    · rw [H.out.drop_end hlt, indexB] at hM
      have HM := Lib.hid hM; clear hM
      go_wp2
      go_ret; exact ⟨ret_int HM.out, rfl⟩
theorem containsBool_any (A : Option Addr) (n c : Nat) (xs : List Bool) (v : Bool) (w : World) (h : Sl w A n (xs.map Bv)) (hn : n ≤ maxLen) :
    Calls Try.prog 83 #[.slice A n c, Bv v] w fun e w' => e = .returned (.bool (xs.contains v)) ∧ w = w' := by
  have H := Lib.hid h; clear h
  have HM := Lib.hid (indexB_lo v xs 0 (Int.le_refl _))
  go_enter Try.func83, Try.ntmps83
  go_wp2_with fail
  refine (indexBool_any A n c xs v w H.out hn).mono ?_; rintro e w' ⟨rfl, rfl⟩
  go_wp2
  go_ret; exact ⟨ret_bool HM.out, rfl⟩
/-- What is thrown. -/
abbrev thrown (e : Int) : PanicEntry := { v := .iface 91 (.agg #[I e]), recovered := false }
theorem must_ok (A : Option Addr) (n c : Nat) (xs : List Bool) (e : Int) (w : World) (h : Sl w A n (xs.map Bv)) (hn : n ≤ maxLen) (hx : xs.contains false = false) :
    Calls Try.prog 47 #[I e, .slice A n c] w fun e' w' => e' = .returned (.tuple #[]) ∧ w = w' := by
  have H := Lib.hid h; have HX := Lib.hid hx; clear h hx
  go_enter Try.func47, Try.ntmps47
  go_wp2_with fail
  refine (containsBool_any A n c xs false w H.out hn).mono ?_; rintro e w' ⟨rfl, rfl⟩; rw [HX.out]
  go_wp2
  go_end0
  exact ⟨rfl, rfl⟩
theorem must_bad (A : Option Addr) (n c : Nat) (xs : List Bool) (e : Int) (w : World) (h : Sl w A n (xs.map Bv)) (hn : n ≤ maxLen) (hx : xs.contains false = true) :
    Calls Try.prog 47 #[I e, .slice A n c] w fun e' w' => e' = .panicked [thrown e] ∧ w = w' := by
  have H := Lib.hid h; have HX := Lib.hid hx; clear h hx
  go_enter Try.func47, Try.ntmps47
  go_wp2_with fail
  refine (containsBool_any A n c xs false w H.out hn).mono ?_; rintro e w' ⟨rfl, rfl⟩; rw [HX.out]
  go_wp2
  exact ⟨rfl, rfl, rfl⟩
end Go.Proofs.Ytlafiddfplhafaa
/- net.Check's deferred closure walked. -/
namespace Go.Proofs.Ytlafiddfplhafaa
set_option linter.unusedVariables false
set_option linter.unusedSimpArgs false
open Go.RowKit
theorem wpS_of_wp' {P : Program} {c : Code} {Q : Exit → Act → List Frame → World → Prop} {a : Act} {cs : List Frame} {w : World} (h : ∀ Q' : Exit → Act → World → Prop, (∀ e a' w', Q e a' cs w' → Q' e a' w') → c.wp P Q' a w) : c.wpS P Q a cs w :=
  wpS_of_wp (h _ fun _ _ _ h => h)
theorem assert_hit (v : Value) (w : World) : (Instr.typeAssert (.iface 91 v) 20 91 true).run Try.prog w = .ok (.tuple #[v, .bool true]) w := by
  simp [Instr.typeAssert, run_underlying Try.underlying91]
theorem assert_nil (w : World) : (Instr.typeAssert .nilIface 20 91 true).run Try.prog w = .ok (.tuple #[.agg #[.int .i64 0], .bool false]) w := by
  kernel_rfl
/-- The deferred closure, where something was thrown. -/
theorem catch_thrown (p : Addr) (e0 e : Int) (older : List PanicEntry) (w : World) (hc : w.cell? p = some (I e0)) (hz : w.frozen? p = false) (hp : p.block < w.heap.size) :
    CallsD Try.prog 46 #[.pointer (some p)] (.panicking ({ v := .iface 91 (.agg #[I e]), recovered := false } :: older)) w fun en u' w' =>
      en = .returned (.tuple #[]) ∧ u' = .panicking ({ v := .iface 91 (.agg #[I e]), recovered := true } :: older) ∧ w' = (w.alloc (.cells #[I e] 91)).setCell p (I e) := by
  have hc2 : ∀ o, (w.alloc o).cell? p = some (I e0) := fun o => (World.cell?_alloc_lt w o p hp).trans hc
  have hz2 : ∀ o, (w.alloc o).frozen? p = false := fun o => ((Below.alloc (Below.refl w.heap.size w) (Nat.le_refl _) o).frozen hp).trans hz
  have hta := assert_hit
  refine callsD_of_wpS Try.func46 rfl fun c₀ cs hu => ?_
  simp only [Try.ntmps46, List.size_toArray, List.length_cons, List.length_nil, Nat.reduceAdd, Nat.reduceSub, Array.replicate_succ, Array.replicate_zero, List.push_toArray, List.append_toArray, List.nil_append, List.cons_append]
  apply wpS_seq
  apply wpS_region
  simp [wpOpsS, go_sem, recoverD, hu, Exit.thenS]
  refine wpS_of_wp' fun Q hQ => ?_
  have HU := Lib.hid hu; clear hu
  go_wp2
  simp [bodyPostS, results, Try.results46]
theorem catch_idle (p : Addr) (w : World) :
    CallsD Try.prog 46 #[.pointer (some p)] .returning w fun e u' w' => e = .returned (.tuple #[]) ∧ u' = .returning ∧ w' = w.alloc (.cells #[I 0] 91) := by
  have hta := assert_nil
  refine callsD_of_wpS Try.func46 rfl fun c₀ cs hu => ?_
  simp only [Try.ntmps46, List.size_toArray, List.length_cons, List.length_nil, Nat.reduceAdd, Nat.reduceSub, Array.replicate_succ, Array.replicate_zero, List.push_toArray, List.append_toArray, List.nil_append, List.cons_append]
  apply wpS_seq
  apply wpS_region
  simp [wpOpsS, go_sem, recoverD, hu, Exit.thenS]
  refine wpS_of_wp' fun Q hQ => ?_
  have HU := Lib.hid hu; clear hu
  go_wp2
  have hu := HU.out
  cases c₀
  simp_all [bodyPostS, results, Try.results46]
/-- Check's door, behind a panic: what was thrown is handed back. -/
theorem door_panic (tmps : Array Value) (p : Addr) (e0 e : Int) (R : Ending → World → Prop) (w : World) (hc : w.cell? p = some (I e0)) (hz : w.frozen? p = false) (h2 : tmps.getD 2 undef = .pointer (some p))
    (hR : R (.returned (I e)) ((w.alloc (.cells #[I e] 91)).setCell p (I e))) :
    bodyPostD Try.prog Try.f17 R (Exit.panic [thrown e]) { tmps := tmps, defers := [{ target := .fn (.func 46) #[.pointer (some p)], args := #[] }] } w := by
  have hp := lt_of_cell hc
  have hc3 : ((w.alloc (.cells #[I e] 91)).setCell p (I e)).cell? p = some (I e) :=
    World.cell?_setCell_same _ _ _ ((World.cell?_alloc_lt w _ p hp).trans hc)
  refine leaves_cons (f := 46) (args := #[.pointer (some p)]) (by simp) (by simp [go_sem]) ?_
  refine (catch_thrown p e0 e [] _ hc hz hp).mono ?_
  rintro en u' w'' ⟨rfl, rfl, rfl⟩
  generalize (w.alloc (.cells #[I e] 91)).setCell p (I e) = W at hR hc3
  have h3 : tmps[2]?.getD undef = .pointer (some p) := by simpa using h2
  simp [Leaves, settle, results, Try.results17, go_sem, h2, h3, hc3, hR]
/-- Check's door, where nothing was thrown. -/
theorem door_ok (ex : Exit) (hex : ex = .ret ∨ ex = .normal) (tmps : Array Value) (p : Addr) (e : Int) (R : Ending → World → Prop) (w : World) (hc : w.cell? p = some (I e)) (h2 : tmps.getD 2 undef = .pointer (some p))
    (hR : R (.returned (I e)) (w.alloc (.cells #[I 0] 91))) :
    bodyPostD Try.prog Try.f17 R ex { tmps := tmps, defers := [{ target := .fn (.func 46) #[.pointer (some p)], args := #[] }] } w := by
  have hp := lt_of_cell hc
  have hc3 : (w.alloc (.cells #[I 0] 91)).cell? p = some (I e) := (World.cell?_alloc_lt w _ p hp).trans hc
  have h3 : tmps[2]?.getD undef = .pointer (some p) := by simpa using h2
  rcases hex with rfl | rfl
  all_goals
    refine leaves_cons (f := 46) (args := #[.pointer (some p)]) (by simp) (by simp [go_sem]) ?_
    refine (catch_idle p _).mono ?_
    rintro en u' w'' ⟨rfl, rfl, rfl⟩
    generalize w.alloc (.cells #[I 0] 91) = W at hR hc3
    simp [Leaves, settle, results, Try.results17, go_sem, h2, h3, hc3, hR]
end Go.Proofs.Ytlafiddfplhafaa
/- net.form, slices.Clone at []int. -/
namespace Go.Proofs.Ytlafiddfplhafaa
set_option linter.unusedVariables false
set_option linter.unusedSimpArgs false
open Go.RowKit
set_option maxHeartbeats 2000000 in
theorem form_any (i : Int) (GA : Option Addr) (gn gc : Nat) (RA : Option Addr) (rn rc : Nat) (OA : Option Addr) (on oc : Nat) (A' : Option Addr) (m c' : Nat) (N : NetM) (g : GateM) (w : World)
    (hi : N.ins = i) (hi0 : 0 ≤ i) (hi3 : i ≤ 3) (hr : N.regs.length = rn) (hr2 : rn ≤ 20) (hm : g.args.length = m) (hm2 : m ≤ 16) :
    Calls Try.prog 49 #[netV i GA gn gc RA rn rc OA on oc, .agg #[I g.kind, I g.num, .slice A' m c']] w fun e w' => e = .returned (.bool (formM N g)) ∧ Ext w w' := by
  obtain ⟨kd, nm, ags⟩ := g
  simp only at hm
  have h5 : kd = 2 ∨ kd = 3 ∨ kd = 4 ∨ kd = 5 ∨ kd = 6 ∨ (kd ≠ 2 ∧ kd ≠ 3 ∧ kd ≠ 4 ∧ kd ≠ 5 ∧ kd ≠ 6) := by omega
  generalize hF : formM N ⟨kd, nm, ags⟩ = F
  unfold formM at hF
  simp only [hi, hr, hm] at hF
  clear hi hr hm
  rcases h5 with rfl | rfl | rfl | rfl | rfl | ⟨n2, n3, n4, n5, n6⟩
  · simp only [reduceIte, Int.reduceEq, false_or, or_false, true_or, or_true, or_self] at hF
    have HF := Lib.hid hF; clear hF
    go_enter Try.func49, Try.ntmps49
    go_wp2
    all_goals go_ret
    all_goals exact ⟨ret_bool (by rw [← HF.out, Bool.eq_iff_iff]; simp_all <;> omega), ((Ext.refl w).alloc _).alloc _⟩
  · simp only [reduceIte, Int.reduceEq, false_or, or_false, true_or, or_true, or_self] at hF
    have HF := Lib.hid hF; clear hF
    go_enter Try.func49, Try.ntmps49
    go_wp2
    all_goals go_ret
    all_goals exact ⟨ret_bool (by rw [← HF.out, Bool.eq_iff_iff]; simp_all <;> omega), ((Ext.refl w).alloc _).alloc _⟩
  · simp only [reduceIte, Int.reduceEq, false_or, or_false, true_or, or_true, or_self] at hF
    have HF := Lib.hid hF; clear hF
    go_enter Try.func49, Try.ntmps49
    go_wp2
    all_goals go_ret
    all_goals exact ⟨ret_bool (by rw [← HF.out, Bool.eq_iff_iff]; simp_all <;> omega), ((Ext.refl w).alloc _).alloc _⟩
  · simp only [reduceIte, Int.reduceEq, false_or, or_false, true_or, or_true, or_self] at hF
    have HF := Lib.hid hF; clear hF
    go_enter Try.func49, Try.ntmps49
    go_wp2
    all_goals go_ret
    all_goals exact ⟨ret_bool (by rw [← HF.out, Bool.eq_iff_iff]; simp_all <;> omega), ((Ext.refl w).alloc _).alloc _⟩
  · simp only [reduceIte, Int.reduceEq, false_or, or_false, true_or, or_true, or_self] at hF
    have HF := Lib.hid hF; clear hF
    go_enter Try.func49, Try.ntmps49
    go_wp2
    all_goals go_ret
    all_goals exact ⟨ret_bool (by rw [← HF.out, Bool.eq_iff_iff]; simp_all <;> omega), ((Ext.refl w).alloc _).alloc _⟩
  · simp only [n2, n3, n4, n5, n6, if_false, false_or, or_self] at hF
    have HF := Lib.hid hF; clear hF
    go_enter Try.func49, Try.ntmps49
    go_wp2
    all_goals go_ret
    all_goals exact ⟨ret_bool (by rw [← HF.out, Bool.eq_iff_iff]; simp_all <;> omega), ((Ext.refl w).alloc _).alloc _⟩
theorem tab_int' : (Try.prog.info? 3).map (fun i => (i.zero, i.size, i.bytes)) = some (some (.int .i64 0), 1, 8) := by kernel_rfl
theorem ints_one (xs : List Int) : ∀ u ∈ xs.map I, u.oneCell' = true := by
  intro u hu; obtain ⟨x, _, rfl⟩ := List.mem_map.1 hu; rfl
/-- slices.Clone of ints: a row of the call's own. -/
theorem cloneInts_any (A : Option Addr) (n c : Nat) (xs : List Int) (w : World) (h : Sl w A n (xs.map I)) (hn : n * 8 ≤ 140737488355328) :
    Calls Try.prog 48 #[.slice A n c] w fun e w' => ∃ v, e = .returned v ∧ w'.ownsRow w.heap.size 3 1 v n (xs.map I) ∧ Ext w w' := by
  have hnil := fun W a l c => Lib.run_eql_slice_nil (P := Try.prog) W 23 3 a l c 0 0 Try.underlying23
  cases A with
  | none =>
    have hm : n = 0 := by
      rcases Nat.eq_zero_or_pos n with e | e
      · exact e
      · obtain ⟨b, off, x, e2, _⟩ := h.at_ e; cases e2
    subst hm
    have hx : xs = [] := List.eq_nil_of_length_eq_zero h.len
    subst hx
    go_enter Try.func48, Try.ntmps48
    go_wp2
    go_ret
    exact ⟨_, rfl, World.ownsRow_nil _ _ _ _, Ext.refl _⟩
  | some ad =>
    have H := Lib.hid (h.keep (Keeps.alloc w (.cells #[] 3))); clear h
    go_enter Try.func48, Try.ntmps48
    go_wp2_with (at_builtin; refine wpList_appendAll rfl (.tmp 5) (.tmp 6) 23 3 rfl tab_int' Try.underlying23 rfl w ((Ext.refl w).alloc _) _ 0 [] rfl (own_empty w _ _ _ (Nat.le_refl _)) (some ad) n c _ rfl H.out (ints_one xs) (by unfold maxLen; omega) (by omega) ?_; intro v' w2 hown2 hx3 _)
    go_ret
    exact ⟨_, rfl, by simpa using hown2, hx3⟩
end Go.Proofs.Ytlafiddfplhafaa
/- A gate's value, by the program and by the reference. -/
namespace Go.Proofs.Ytlafiddfplhafaa
set_option linter.unusedVariables false
set_option linter.unusedSimpArgs false
open Go.RowKit
abbrev handV (RA : Option Addr) (rn rc : Nat) (IA : Option Addr) (jn jc : Nat) : Value := .agg #[.slice RA rn rc, .slice IA jn jc]
abbrev gateV (k n : Int) (AA : Option Addr) (an ac : Nat) : Value := .agg #[I k, I n, .slice AA an ac]
theorem box2 (w : World) (x y : Value) (T : TypeId) {W : World} (h : W = w.alloc (.cells #[x, y] T)) : W.cell? ⟨w.heap.size, 0, none⟩ = some x ∧ W.cell? ⟨w.heap.size, 1, none⟩ = some y ∧ Ext w W := by
  subst h
  exact ⟨by rw [World.cell?_alloc_new]; rfl, by rw [World.cell?_alloc_new]; rfl, (Ext.refl _).alloc _⟩
theorem box3 (w : World) (x y z : Value) (T : TypeId) {W : World} (h : W = w.alloc (.cells #[x, y, z] T)) : W.cell? ⟨w.heap.size, 0, none⟩ = some x ∧ W.cell? ⟨w.heap.size, 1, none⟩ = some y ∧ W.cell? ⟨w.heap.size, 2, none⟩ = some z ∧ Ext w W := by
  subst h
  exact ⟨by rw [World.cell?_alloc_new]; rfl, by rw [World.cell?_alloc_new]; rfl, by rw [World.cell?_alloc_new]; rfl, (Ext.refl _).alloc _⟩
theorem valI_at {v : List Int} {k : Nat} {x : Int} (h : v[k]? = some x) : valI v (k : Int) = x := by simp [valI, h]
theorem take_next {α β : Type} (f : α → β) (l : List α) {k : Nat} {x : α} (h : l[k]? = some x) : (l.take (k + 1)).map f = (l.take k).map f ++ [f x] := by
  rw [List.take_add_one, h]; simp
set_option maxHeartbeats 2000000 in
theorem handOf_any (RA : Option Addr) (rn rc : Nat) (IA : Option Addr) (jn jc : Nat) (AA : Option Addr) (an ac : Nat) (VA : Option Addr) (vn vc : Nat) (regs ins v : List Int) (g : GateM) (w : World)
    (hr : Sl w RA rn (regs.map I)) (hi : Sl w IA jn (ins.map I)) (ha : Sl w AA an (g.args.map I)) (hv : Sl w VA vn (v.map I)) (hg : GateR vn rn jn g) (hvg : goodL v) :
    Calls Try.prog 87 #[handV RA rn rc IA jn jc, gateV g.kind g.num AA an ac, .slice VA vn vc] w fun e w' => e = .returned (I (worthM regs ins v g)) ∧ Ext w w' := by
  obtain ⟨kd, nm, args⟩ := g
  simp only at ha ⊢
  generalize hM : worthM regs ins v ⟨kd, nm, args⟩ = M
  unfold worthM at hM
  simp only at hM
  have hkd := hg.kind; simp only at hkd
  have hinp := hg.inp; have hreg := hg.reg; have hone := hg.one; have hargs := hg.args; have hal := hg.al
  simp only at hinp hreg hone hargs hal
  have han := ha.len
  obtain ⟨W, hW⟩ : ∃ W, W = w.alloc (.cells #[.slice RA rn rc, .slice IA jn jc] 110) := ⟨_, rfl⟩
  obtain ⟨W2, hW2⟩ : ∃ W2, W2 = W.alloc (.cells #[I kd, I nm, .slice AA an ac] 95) := ⟨_, rfl⟩
  obtain ⟨p0, p1, x1⟩ := box2 w _ _ _ hW
  obtain ⟨y0, y1, y2, x2⟩ := box3 W _ _ _ _ hW2
  have q0 := x2.keeps _ _ p0; have q1 := x2.keeps _ _ p1
  have hWs : W.heap.size = w.heap.size + 1 := by rw [hW]; simp
  rw [hWs] at y0 y1 y2
  have hx := x1.trans x2
  have hW3 : W2 = (w.alloc (.cells #[.slice RA rn rc, .slice IA jn jc] 110)).alloc (.cells #[I kd, I nm, .slice AA an ac] 95) := by rw [hW2, hW]
  have HW := Lib.hid hW3; have HX := Lib.hid hx
  have HR := Lib.hid (hr.keep hx.keeps); have HI := Lib.hid (hi.keep hx.keeps); have HA := Lib.hid (ha.keep hx.keeps); have HV := Lib.hid (hv.keep hx.keeps)
  have HG := Lib.hid hvg; have HAR := Lib.hid hargs
  clear hW hW2 hW3 x1 x2 hx p0 p1 hWs hr hi ha hv hvg hg hargs
  have hk : kd = 0 ∨ kd = 1 ∨ kd = 2 ∨ kd = 3 ∨ kd = 4 ∨ kd = 5 ∨ kd = 6 := by omega
  clear hkd
  rcases hk with rfl | rfl | rfl | rfl | hk
  · have HM := Lib.hid hM; clear hM hinp hreg hone
    go_enter Try.func87, Try.ntmps87
    go_wp2_with fail
    rw [← HW.out]
    go_wp2
    go_ret
    exact ⟨ret_int (by rw [← HM.out]; rfl), HX.out⟩
  · have HM := Lib.hid hM; clear hM hinp hreg hone
    go_enter Try.func87, Try.ntmps87
    go_wp2_with fail
    rw [← HW.out]
    go_wp2
    go_ret
    exact ⟨ret_int (by rw [← HM.out]; rfl), HX.out⟩
  · obtain ⟨h0, h1⟩ := hinp rfl
    obtain ⟨k, rfl⟩ : ∃ k : Nat, nm = k := ⟨nm.toNat, by omega⟩
    have hk : k < jn := by omega
    obtain ⟨b, off, x, rfl, hc, hx⟩ := HI.out.at_ hk
    have HM : Hid (x = M) := by unfold Hid; rw [← hM]; simp [valI, hx]
    clear hM hinp hreg hone hx h0 h1
    rw [HW.out] at hc
    go_enter Try.func87, Try.ntmps87
    go_wp2
    go_ret
    rw [← HW.out]
    exact ⟨ret_int HM.out, HX.out⟩
  · obtain ⟨h0, h1⟩ := hreg rfl
    obtain ⟨k, rfl⟩ : ∃ k : Nat, nm = k := ⟨nm.toNat, by omega⟩
    have hk : k < rn := by omega
    obtain ⟨b, off, x, rfl, hc, hx⟩ := HR.out.at_ hk
    have HM : Hid (x = M) := by unfold Hid; rw [← hM]; simp [valI, hx]
    clear hM hinp hreg hone hx h0 h1
    rw [HW.out] at hc
    go_enter Try.func87, Try.ntmps87
    go_wp2
    go_ret
    rw [← HW.out]
    exact ⟨ret_int HM.out, HX.out⟩
  · rw [if_neg (by omega), if_neg (by omega), if_neg (by omega), if_neg (by omega)] at hM
    have k0 : (kd == 0) = false := by simpa using (show ¬ kd = 0 by omega)
    have k1 : (kd == 1) = false := by simpa using (show ¬ kd = 1 by omega)
    have k2 : (kd == 2) = false := by simpa using (show ¬ kd = 2 by omega)
    have k3 : (kd == 3) = false := by simpa using (show ¬ kd = 3 by omega)
    have HM := Lib.hid hM; have HO := Lib.hid hone; have HK := Lib.hid hk; clear hM hinp hreg hone hk
    go_enter Try.func87, Try.ntmps87
    go_wp2_with fail
    rw [← HW.out]
    go_wp2
    go_loopw [7, 35] (fun s i wr => ∃ (k : Nat), k ≤ an ∧ i = .int .i64 k ∧ Ext W2 wr ∧ wr.ownsRow W2.heap.size 3 1 s k (((args.take k).map (valI v)).map I)) (fun _ i _ => an - (intOf i).toNat)
    case atStart => exact ⟨0, Nat.zero_le _, rfl, Ext.refl _, World.ownsRow_nil _ _ _ _⟩
    case round =>
      obtain ⟨k, hk, rfl, hext, hown⟩ := hrel
      by_cases hlt : k < an
      · obtain ⟨b, off, x, rfl, hc0, hx⟩ := HA.out.at_ hlt
        have hc := hext.keeps _ _ hc0
        obtain ⟨ha0, ha1⟩ := HAR.out x (List.mem_of_getElem? hx)
        obtain ⟨j, rfl⟩ : ∃ j : Nat, x = j := ⟨x.toNat, by omega⟩
        have hj : j < vn := by omega
        obtain ⟨b', off', y, rfl, hd0, hy⟩ := HV.out.at_ hj
        have hd := hext.keeps _ _ hd0
        have hn := take_next (valI v) args hx
        rw [valI_at hy] at hn
        have HN := Lib.hid hn; have HOwn := Lib.hid hown
        clear hn hown hx hy hc0 hd0 ha0 ha1
        go_wp2_with (at_builtin; refine wpList_push rfl (.tmp 39) (.tmp 44) 23 3 rfl tab_int' Try.underlying23 rfl (by omega) W2 wr hext _ k _ rfl HOwn.out [I y] rfl rfl rfl (by simp [Value.oneCell']) (by unfold maxLen; omega) (by omega) ?_; intro v' w2 hown2 hx3 _)
        go_roundw
        case rel => exact ⟨k + 1, by omega, by go_num, hx3, by rw [HN.out]; simpa using hown2⟩
        case measure => simp [intOf]; omega
      · have hkn : k = an := by omega
        subst hkn
        have ht : args.take k = args := List.take_of_length_le (by omega)
        rw [ht] at hown
        obtain ⟨S, sc, rfl, hs1, hs2, hsl⟩ := own_sl hown
        have HS := Lib.hid hsl
        have z0 := hext.keeps _ _ y0
        clear ht hown hsl hk hlt
        rcases HK.out with rfl | rfl | rfl
        · have HX2 := Lib.hid (HX.out.trans hext); clear hext
          go_wp2_with fail
          refine (ofAll_any _ k sc _ wr HS.out (by unfold maxLen; omega)).mono ?_; rintro e w' ⟨rfl, rfl⟩
          go_wp2
          go_ret
          exact ⟨ret_int HM.out, HX2.out⟩
        · have HX2 := Lib.hid (HX.out.trans hext); clear hext
          go_wp2_with fail
          refine (ofAny_any _ k sc _ wr HS.out (by unfold maxLen; omega)).mono ?_; rintro e w' ⟨rfl, rfl⟩
          go_wp2
          go_ret
          exact ⟨ret_int HM.out, HX2.out⟩
        · have HX2 := Lib.hid (HX.out.trans hext); clear hext
          obtain ⟨a, rfl⟩ : ∃ a, args = [a] := by
            have := HO.out rfl
            match args, this with
            | [a], _ => exact ⟨a, rfl⟩
          have hb : bad3 (valI v a) = false := by rcases valI_good HG.out a with e | e | e <;> rw [e] <;> rfl
          have HB := Lib.hid hb; clear hb
          go_wp2_with fail
          refine (ofNot_any _ k sc (valI v a) [] wr HS.out (by unfold maxLen; omega) HB.out).mono ?_; rintro e w' ⟨rfl, rfl⟩
          go_wp2
          go_ret
          exact ⟨ret_int HM.out, HX2.out⟩
end Go.Proofs.Ytlafiddfplhafaa
