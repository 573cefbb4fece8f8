/- net.form, slices.Clone at []int. -/
import Derived.Test.YtjagbnaacfhokaaNetChk
namespace Go.Proofs.Ytjagbnaacfhokaa
set_option linter.unusedVariables false
set_option linter.unusedSimpArgs false
open Go.RowKit

set_option maxHeartbeats 2000000 in
theorem form_any (i : Int) (GA : Option Addr) (gn gc : Nat) (RA : Option Addr) (rn rc : Nat) (OA : Option Addr) (on oc : Nat) (A' : Option Addr) (m c' : Nat) (N : NetM) (g : GateM) (w : World)
    (hi : N.ins = i) (hi0 : 0 ≤ i) (hi3 : i ≤ 3) (hr : N.regs.length = rn) (hr2 : rn ≤ 20) (hm : g.args.length = m) (hm2 : m ≤ 16) :
    Calls Try.prog 114 #[netV i GA gn gc RA rn rc OA on oc, .agg #[I g.kind, I g.num, .slice A' m c']] w fun e w' => e = .returned (.bool (formM N g)) ∧ Ext w w' := by
  obtain ⟨kd, nm, ags⟩ := g
  simp only at hm
  have h5 : kd = 2 ∨ kd = 3 ∨ kd = 4 ∨ kd = 5 ∨ kd = 6 ∨ (kd ≠ 2 ∧ kd ≠ 3 ∧ kd ≠ 4 ∧ kd ≠ 5 ∧ kd ≠ 6) := by omega
  generalize hF : formM N ⟨kd, nm, ags⟩ = F
  unfold formM at hF
  simp only [hi, hr, hm] at hF
  clear hi hr hm
  rcases h5 with rfl | rfl | rfl | rfl | rfl | ⟨n2, n3, n4, n5, n6⟩
  · simp only [reduceIte, Int.reduceEq, false_or, or_false, true_or, or_true, or_self] at hF
    have HF := Lib.hid hF; clear hF
    go_enter Try.func114, Try.ntmps114
    go_wp2
    all_goals go_ret
    all_goals exact ⟨ret_bool (by rw [← HF.out, Bool.eq_iff_iff]; simp_all <;> omega), ((Ext.refl w).alloc _).alloc _⟩
  · simp only [reduceIte, Int.reduceEq, false_or, or_false, true_or, or_true, or_self] at hF
    have HF := Lib.hid hF; clear hF
    go_enter Try.func114, Try.ntmps114
    go_wp2
    all_goals go_ret
    all_goals exact ⟨ret_bool (by rw [← HF.out, Bool.eq_iff_iff]; simp_all <;> omega), ((Ext.refl w).alloc _).alloc _⟩
  · simp only [reduceIte, Int.reduceEq, false_or, or_false, true_or, or_true, or_self] at hF
    have HF := Lib.hid hF; clear hF
    go_enter Try.func114, Try.ntmps114
    go_wp2
    all_goals go_ret
    all_goals exact ⟨ret_bool (by rw [← HF.out, Bool.eq_iff_iff]; simp_all <;> omega), ((Ext.refl w).alloc _).alloc _⟩
  · simp only [reduceIte, Int.reduceEq, false_or, or_false, true_or, or_true, or_self] at hF
    have HF := Lib.hid hF; clear hF
    go_enter Try.func114, Try.ntmps114
    go_wp2
    all_goals go_ret
    all_goals exact ⟨ret_bool (by rw [← HF.out, Bool.eq_iff_iff]; simp_all <;> omega), ((Ext.refl w).alloc _).alloc _⟩
  · simp only [reduceIte, Int.reduceEq, false_or, or_false, true_or, or_true, or_self] at hF
    have HF := Lib.hid hF; clear hF
    go_enter Try.func114, Try.ntmps114
    go_wp2
    all_goals go_ret
    all_goals exact ⟨ret_bool (by rw [← HF.out, Bool.eq_iff_iff]; simp_all <;> omega), ((Ext.refl w).alloc _).alloc _⟩
  · simp only [n2, n3, n4, n5, n6, if_false, false_or, or_self] at hF
    have HF := Lib.hid hF; clear hF
    go_enter Try.func114, Try.ntmps114
    go_wp2
    all_goals go_ret
    all_goals exact ⟨ret_bool (by rw [← HF.out, Bool.eq_iff_iff]; simp_all <;> omega), ((Ext.refl w).alloc _).alloc _⟩

theorem tab_int' : (Try.prog.info? 3).map (fun i => (i.zero, i.size, i.bytes)) = some (some (.int .i64 0), 1, 8) := by kernel_rfl
theorem ints_one (xs : List Int) : ∀ u ∈ xs.map I, u.oneCell' = true := by
  intro u hu; obtain ⟨x, _, rfl⟩ := List.mem_map.1 hu; rfl

/-- slices.Clone of ints: a row of the call's own. -/
theorem cloneInts_any (A : Option Addr) (n c : Nat) (xs : List Int) (w : World) (h : Sl w A n (xs.map I)) (hn : n * 8 ≤ 140737488355328) :
    Calls Try.prog 106 #[.slice A n c] w fun e w' => ∃ v, e = .returned v ∧ w'.ownsRow w.heap.size 3 1 v n (xs.map I) ∧ Ext w w' := by
  have hnil := fun W a l c => Lib.run_eql_slice_nil (P := Try.prog) W 24 3 a l c 0 0 Try.underlying24
  cases A with
  | none =>
    have hm : n = 0 := by
      rcases Nat.eq_zero_or_pos n with e | e
      · exact e
      · obtain ⟨b, off, x, e2, _⟩ := h.at_ e; cases e2
    subst hm
    have hx : xs = [] := List.eq_nil_of_length_eq_zero h.len
    subst hx
    go_enter Try.func106, Try.ntmps106
    go_wp2
    go_ret
    exact ⟨_, rfl, World.ownsRow_nil _ _ _ _, Ext.refl _⟩
  | some ad =>
    have H := Lib.hid (h.keep (Keeps.alloc w (.cells #[] 3))); clear h
    go_enter Try.func106, Try.ntmps106
    go_wp2_with (at_builtin; refine wpList_appendAll rfl (.tmp 5) (.tmp 6) 24 3 rfl tab_int' Try.underlying24 rfl w ((Ext.refl w).alloc _) _ 0 [] rfl (own_empty w _ _ _ (Nat.le_refl _)) (some ad) n c _ rfl H.out (ints_one xs) (by unfold maxLen; omega) (by omega) ?_; intro v' w2 hown2 hx3 _)
    go_ret
    exact ⟨_, rfl, by simpa using hown2, hx3⟩
end Go.Proofs.Ytjagbnaacfhokaa
