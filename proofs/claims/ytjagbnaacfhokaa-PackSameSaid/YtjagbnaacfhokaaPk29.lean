/- What must be in any case of tick. -/
import Derived.Test.YtjagbnaacfhokaaPk27
import Derived.Test.YtjagbnaacfhokaaPk03
import Derived.Test.YtjagbnaacfhokaaPk28
import Derived.Test.YtjagbnaacfhokaaPk02
import Derived.Test.YtjagbnaacfhokaaPk17
import Derived.Laws.CopyOwn
namespace Go.Proofs.Ytjagbnaacfhokaa
set_option linter.unusedVariables false
set_option linter.unusedSimpArgs false
open Go.RowKit

theorem SlRows.new3 (w : World) (b : Nat) (hb : b = w.heap.size) (A1 A2 A3 : Option Addr) (n1 n2 n3 c1 c2 c3 : Nat) (r1 r2 r3 : List Int) (t : TypeId) (h1 : Sl w A1 n1 (r1.map I)) (h2 : Sl w A2 n2 (r2.map I)) (h3 : Sl w A3 n3 (r3.map I)) (m1 : n1 ≤ c1 ∧ c1 ≤ 1000) (m2 : n2 ≤ c2 ∧ c2 ≤ 1000) (m3 : n3 ≤ c3 ∧ c3 ≤ 1000) :
    SlRows (w.alloc (.cells #[.slice A1 n1 c1, .slice A2 n2 c2, .slice A3 n3 c3] t)) (some ⟨b, 0, none⟩) 3 [r1, r2, r3] := by
  subst hb
  have k := fun n h => @ml_small n h
  have l1 : r1.length = n1 := h1.len
  have l2 : r2.length = n2 := h2.len
  have l3 : r3.length = n3 := h3.len
  subst l1; subst l2; subst l3
  have cell : ∀ (j : Nat) (v : Value), #[Value.slice A1 r1.length c1, .slice A2 r2.length c2, .slice A3 r3.length c3][j]? = some v → (w.alloc (.cells #[.slice A1 r1.length c1, .slice A2 r2.length c2, .slice A3 r3.length c3] t)).cell? ⟨w.heap.size, 0 + j, none⟩ = some v := fun j v h => by
    rw [Nat.zero_add, World.cell?_alloc_new]; exact h
  refine ⟨rfl, fun j r hr => ?_⟩
  rcases j with _ | _ | _ | j
  · injection hr with e; subst e
    exact ⟨_, 0, A1, c1, rfl, cell 0 _ rfl, h1.keep (Keeps.alloc _ _), m1.1, k _ m1.2⟩
  · injection hr with e; subst e
    exact ⟨_, 0, A2, c2, rfl, cell 1 _ rfl, h2.keep (Keeps.alloc _ _), m2.1, k _ m2.2⟩
  · injection hr with e; subst e
    exact ⟨_, 0, A3, c3, rfl, cell 2 _ rfl, h3.keep (Keeps.alloc _ _), m3.1, k _ m3.2⟩
  · simp at hr

section
variable {i : Int} {GA : Option Addr} {gn gc : Nat} {RA : Option Addr} {rn rc : Nat} {OA : Option Addr} {on oc : Nat} {N : NetM} {w : World}
theorem do_lit (RB : Option Addr) (pn pc : Nat) (IA : Option Addr) (jn jc : Nat) (regs ins vo vn : List Int) (x : Int) (n m : Nat) (hn : vo.length = n) (hm : vn.length = m) (hE : doE N regs ins = x) (hQ : doQ N regs ins = (vo, vn)) (h : NetC w i GA gn gc RA rn rc OA on oc N) (hr : Sl w RB pn (regs.map I)) (hi : Sl w IA jn (ins.map I)) (hpm : pn ≤ 1000) (hjm : jn ≤ 1000) :
    Calls Try.prog 54 #[netV i GA gn gc RA rn rc OA on oc, .slice RB pn pc, .slice IA jn jc] w fun e w' => ∃ A c B d, e = .returned (Pr3 (.slice A n c) (.slice B m d) (I x)) ∧ Sl w' A n (vo.map I) ∧ Sl w' B m (vn.map I) ∧ Ext w w' :=
  (do_any i GA gn gc RA rn rc OA on oc N RB pn pc IA jn jc regs ins w h hr hi (ml_small hpm) (ml_small hjm)).mono fun e w' ⟨v, u, he, h1, h2, hx⟩ => by
    rw [hE] at he
    rw [hQ] at h1 h2
    obtain ⟨A, c, rfl, -, -, hs⟩ := own_sl h1
    obtain ⟨B, d, rfl, -, -, hs'⟩ := own_sl h2
    rw [hn] at he hs; rw [hm] at he hs'
    exact ⟨A, c, B, d, he, hs, hs', hx⟩
theorem run_lit (A : Option Addr) (n c : Nat) (l : List Int) (rows : List (List Int)) (vn : List Int) (x : Int) (k m : Nat) (hn : rows.length = k) (hm : vn.length = m) (hE : runE N l = x) (hQ : runV N l = (rows, vn)) (h : NetC w i GA gn gc RA rn rc OA on oc N) (hl : Sl w A n (l.map I)) (hnm : n ≤ 1000) :
    Calls Try.prog 57 #[netV i GA gn gc RA rn rc OA on oc, .slice A n c] w fun e w' => ∃ A c B d, e = .returned (Pr3 (.slice A k c) (.slice B m d) (I x)) ∧ SlRows w' A k rows ∧ Sl w' B m (vn.map I) ∧ Ext w w' :=
  (run_any i GA gn gc RA rn rc OA on oc N A n c l w h hl (ml_small hnm)).mono fun e w' ⟨v, u, vs, he, h1, h2, hx⟩ => by
    rw [hE] at he
    rw [hQ] at h1 h2
    obtain ⟨A, c, rfl, -, -, hs⟩ := h1.slice
    obtain ⟨B, d, rfl, -, -, hs'⟩ := own_sl h2
    have hn' : (rows, vn).1.length = k := hn
    rw [hn'] at he hs; rw [hm] at he hs'
    exact ⟨A, c, B, d, he, hs, hs', hx⟩
theorem rows_lit (A B : Option Addr) (n c d : Nat) (xs : List (List Int)) (Q : World) (h : SlRows Q A n xs) (h' : SlRows Q B n xs) (hn : n ≤ 1000) : Calls Try.prog 51 #[.slice A n c, .slice B n d] Q fun e w' => e = .returned (.bool true) ∧ Ext Q w' :=
  (sameRows_any A B n n c d xs xs Q h h' (ml_small hn) (ml_small hn)).mono fun e w' ⟨he, hx⟩ => ⟨by rw [he]; simp, hx⟩
end

set_option maxRecDepth 100000 in
set_option maxHeartbeats 8000000 in
theorem tickBegun_any (w : World) : Calls Try.prog 56 #[] w fun e w' => e = .returned (.bool true) ∧ Ext w w' := by
  go_enter Try.func56, Try.ntmps56
  go_wp2_with fail
  refine (knot_ok w).mono ?_; rintro e w1 ⟨n1, rfl, hn, x1⟩
  have HN := Lib.hid hn; have X := Lib.hid x1; clear hn x1
  go_wp2_with fail
  refine (do_lit _ 1 1 _ 1 1 [1] [1] [0, 1] [0] 0 2 1 rfl rfl (by decide +kernel) (by decide +kernel) ((HN.out.keep (Keeps.alloc _ _)).keep (Keeps.alloc _ _)) ((Sl.newAt _ _ [I 1] _ rfl).keep (Keeps.alloc _ _)) (Sl.newAt _ _ [I 1] _ (by simp)) (by omega) (by omega)).mono ?_
  rintro e w2 ⟨A1', c1, B1, d1, rfl, hs1, hs2, x2⟩
  have hx := ((X.out.alloc _).alloc _).trans x2
  have SA := Lib.hid hs1; have SB := Lib.hid hs2; have X2 := Lib.hid hx; clear hs1 hs2 hx x2 HN X
  go_wp2_with fail
  refine (loose_ok w2).mono ?_; rintro e w3 ⟨n2, rfl, hn, x3⟩
  have HN := Lib.hid hn; have X3 := Lib.hid x3; clear hn x3
  go_wp2_with fail
  refine (do_lit none 0 0 _ 1 1 [] [0] [] [] 6 0 0 rfl rfl (by decide +kernel) (by decide +kernel) (HN.out.keep (Keeps.alloc _ _)) (Sl.nil _ _) (Sl.newAt _ _ [I 0] _ rfl) (by omega) (by omega)).mono ?_
  rintro e w4 ⟨A2, c2, B2, d2, rfl, -, -, x4⟩
  have hk := (X3.out.alloc _).trans x4
  have hx := X2.out.trans hk
  have SA' := Lib.hid (SA.out.keep hk.keeps); have SB' := Lib.hid (SB.out.keep hk.keeps); have X4 := Lib.hid hx; clear hx hk x4 HN X3 X2 SA SB
  go_wp2_with fail
  refine (knot_ok w4).mono ?_; rintro e w5 ⟨n3, rfl, hn, x5⟩
  have HN := Lib.hid hn; have X5 := Lib.hid x5; clear hn x5
  go_wp2_with fail
  refine (run_lit _ 3 3 [1, 0, 1] [[1, 0], [1, 1], [0, 1]] [0] 0 3 1 rfl rfl (by decide +kernel) (by decide +kernel) (HN.out.keep (Keeps.alloc _ _)) (Sl.newAt _ _ [I 1, I 0, I 1] _ rfl) (by omega)).mono ?_
  rintro e w6 ⟨A3, c3, B3, d3, rfl, hs3, hs4, x6⟩
  have hk := (X5.out.alloc _).trans x6
  have hx := X4.out.trans hk
  have SL := Lib.hid hs3; have SR := Lib.hid hs4; have SA := Lib.hid (SA'.out.keep hk.keeps); have SB := Lib.hid (SB'.out.keep hk.keeps); have X6 := Lib.hid hx; clear hs3 hs4 hx hk x6 HN X5 X4 SA' SB'
  go_wp2_with fail
  refine (knot_ok w6).mono ?_; rintro e w7 ⟨n4, rfl, hn, x7⟩
  have HN := Lib.hid hn; have X7 := Lib.hid x7; clear hn x7
  go_wp2_with fail
  refine (run_lit _ 1 1 [2] [] [] 3 0 0 rfl rfl (by decide +kernel) (by decide +kernel) (HN.out.keep (Keeps.alloc _ _)) (Sl.newAt _ _ [I 2] _ rfl) (by omega)).mono ?_
  rintro e w8 ⟨A4, c4, B4, d4, rfl, -, -, x8⟩
  have hk := (X7.out.alloc _).trans x8
  have hx := X6.out.trans hk
  have SL' := Lib.hid (SL.out.keep hk.keeps); have SR' := Lib.hid (SR.out.keep hk.keeps); have SA' := Lib.hid (SA.out.keep hk.keeps); have SB' := Lib.hid (SB.out.keep hk.keeps); have X8 := Lib.hid hx; clear hx hk x8 HN X7 X6 SL SR SA SB
  go_wp2_with fail
  refine (loose_ok w8).mono ?_; rintro e w9 ⟨n5, rfl, hn, x9⟩
  have HN := Lib.hid hn; have X9 := Lib.hid x9; clear hn x9
  go_wp2_with fail
  refine (run_lit _ 2 2 [1, 0] [] [] 6 0 0 rfl rfl (by decide +kernel) (by decide +kernel) (HN.out.keep (Keeps.alloc _ _)) (Sl.newAt _ _ [I 1, I 0] _ rfl) (by omega)).mono ?_
  rintro e wa ⟨A5, c5, B5, d5, rfl, -, -, xa⟩
  have hk := (X9.out.alloc _).trans xa
  have hx := X8.out.trans hk
  have SL := Lib.hid (SL'.out.keep hk.keeps); have SR := Lib.hid (SR'.out.keep hk.keeps); have SA := Lib.hid (SA'.out.keep hk.keeps); have SB := Lib.hid (SB'.out.keep hk.keeps); have XA := Lib.hid hx; clear hx hk xa HN X9 X8 SL' SR' SA' SB'
  go_wp2_with fail
  refine (same_lit _ _ 2 _ _ [0, 1] _ (SA.out.keep (Keeps.alloc _ _)) (Sl.newAt _ _ [I 0, I 1] _ rfl) (by omega)).mono ?_; rintro e wb ⟨rfl, xb⟩
  have hk := ((Ext.refl wa).alloc _).trans xb
  have SL' := Lib.hid (SL.out.keep hk.keeps); have SR' := Lib.hid (SR.out.keep hk.keeps); have SB' := Lib.hid (SB.out.keep hk.keeps); have XB := Lib.hid (XA.out.trans hk); clear hk xb XA SL SR SA SB
  go_wp2_with fail
  refine (same_lit _ _ 1 _ _ [0] _ (SB'.out.keep (Keeps.alloc _ _)) (Sl.newAt _ _ [I 0] _ rfl) (by omega)).mono ?_; rintro e wc ⟨rfl, xc⟩
  have hk := ((Ext.refl wb).alloc _).trans xc
  have SL := Lib.hid (SL'.out.keep hk.keeps); have SR := Lib.hid (SR'.out.keep hk.keeps); have XC := Lib.hid (XB.out.trans hk); clear hk xc XB SL' SR' SB'
  go_wp2_with fail
  refine (rows_lit _ _ 3 _ _ [[1, 0], [1, 1], [0, 1]] _ (SL.out.keep (((Keeps.alloc _ _).trans (Keeps.alloc _ _)).trans ((Keeps.alloc _ _).trans (Keeps.alloc _ _)))) (SlRows.new3 _ _ (by simp) _ _ _ 2 2 2 2 2 2 [1, 0] [1, 1] [0, 1] _ ((Sl.newAt _ _ [I 1, I 0] _ rfl).keep ((Keeps.alloc _ _).trans (Keeps.alloc _ _))) ((Sl.newAt _ _ [I 1, I 1] _ (by simp)).keep (Keeps.alloc _ _)) (Sl.newAt _ _ [I 0, I 1] _ (by simp)) (by omega) (by omega) (by omega)) (by omega)).mono ?_; rintro e wd ⟨rfl, xd⟩
  have hk := (((((Ext.refl wc).alloc _).alloc _).alloc _).alloc _).trans xd
  have SR' := Lib.hid (SR.out.keep hk.keeps); have XD := Lib.hid (XC.out.trans hk); clear hk xd XC SL SR
  go_wp2_with fail
  refine (same_lit _ _ 1 _ _ [0] _ (SR'.out.keep (Keeps.alloc _ _)) (Sl.newAt _ _ [I 0] _ rfl) (by omega)).mono ?_; rintro e we ⟨rfl, xe⟩
  go_wp2
  go_ret
  exact ⟨rfl, (XD.out.alloc _).trans xe⟩
end Go.Proofs.Ytjagbnaacfhokaa
/- The rule of Flow for regions in which an operation of the rest waits for the front by way of others. -/
namespace Go.Proofs.Ytjagbnaacfhokaa
set_option linter.unusedVariables false
set_option linter.unusedSimpArgs false
open Go.RowKit

/-- What is listed has all listed for which it waits. -/
def Closed (ops : Array Oper) (listed : Array Bool) : Prop := ∀ (i : Nat) (o : Oper), listed.getD i false = true → ops[i]? = some o → ∀ e ∈ o.after.toList, Region.binds .any e = true → listed.getD e.on false = true
theorem Closed.set {ops : Array Oper} {listed : Array Bool} (h : Closed ops listed) (hs : listed.size = ops.size) {i : Nat} (hi : i ∈ Region.ready .any ops listed) : Closed ops (listed.setIfInBounds i true) := by
  obtain ⟨o0, ho0, hd0⟩ := ready_of hi
  have up : ∀ k : Nat, listed.getD k false = true → (listed.setIfInBounds i true).getD k false = true := fun k hk => by
    by_cases e : k = i
    · subst e
      have hlt : k < listed.size := by rw [hs]; exact (Array.getElem?_eq_some_iff.1 ho0).1
      rw [Array.getD_eq_getD_getElem?, Array.getElem?_setIfInBounds_self_of_lt hlt]; rfl
    · rw [Array.getD_eq_getD_getElem?, Array.getElem?_setIfInBounds_ne (fun q => e q.symm), ← Array.getD_eq_getD_getElem?]; exact hk
  intro k o hk ho e he hb
  by_cases q : k = i
  · subst q
    rw [ho0] at ho; injection ho with ho; subst ho
    exact up _ (hd0 e he hb)
  · rw [Array.getD_eq_getD_getElem?, Array.getElem?_setIfInBounds_ne (fun e => q e.symm), ← Array.getD_eq_getD_getElem?] at hk
    exact up _ (h k o hk ho e he hb)
/-- An operation waits for j, by itself or by others. -/
def needsOp (ops : Array Oper) : Nat → Nat → Oper → Bool
  | 0, j, o => waitsFor o j
  | f + 1, j, o => waitsFor o j || o.after.any fun e => Region.binds .any e && match ops[e.on]? with | some o' => needsOp ops f j o' | none => false
theorem needsOp_spec {ops : Array Oper} {listed : Array Bool} (hc : Closed ops listed) {j : Nat} : ∀ (f : Nat) (o : Oper), needsOp ops f j o = true → (∀ e ∈ o.after.toList, Region.binds .any e = true → listed.getD e.on false = true) → listed.getD j false = true
  | 0, o, h, hd => waitsFor_spec h hd
  | f + 1, o, h, hd => by
    unfold needsOp at h
    rw [Bool.or_eq_true] at h
    rcases h with h | h
    · exact waitsFor_spec h hd
    · obtain ⟨e, he, h2⟩ := Array.any_eq_true'.1 h
      rw [Bool.and_eq_true] at h2
      obtain ⟨hb, h2⟩ := h2
      have hl := hd e (by simpa using he) hb
      cases ho : ops[e.on]? with
      | none => rw [ho] at h2; cases h2
      | some o' =>
        rw [ho] at h2
        exact needsOp_spec hc f o' h2 (hc e.on o' hl ho)
def sufOK4 (ops : Array Oper) (m : Nat) : Bool := (List.range ops.size).all fun i => decide (i < m) || match ops[i]? with | some o => (List.range m).all (fun j => needsOp ops 40 j o) | none => true
theorem wpAny_inv_pre4 {P : Program} {ops : Array Oper} {Q : Exit → Act → World → Prop} {m n : Nat} (hsz : ops.size = m + n) (hsuf : sufOK4 ops m = true) (I : Array Bool → Act → World → Prop) (hcl : ∀ listed a w, I listed a w → Closed ops listed)
    (step : ∀ listed a w i, listed.size = ops.size → I listed a w → i < m → i ∈ Region.ready .any ops listed → wpOp P ops Q i (I (listed.setIfInBounds i true)) a w)
    (ready : ∀ listed a w, listed.size = ops.size → I listed a w → Region.ready .any ops listed = [] → ∀ j : Nat, j < m → listed.getD j false = true)
    (rest : ∀ a w, I (preL m n) a w → wpAny P .any ops Q n (preL m n) a w) :
    ∀ (k : Nat) (listed : Array Bool) (a : Act) (w : World), listed.size = ops.size → listed.toList.count false = n + k → (∀ j : Nat, m ≤ j → listed.getD j false = false) → I listed a w → wpAny P .any ops Q (n + k) listed a w
  | 0, listed, a, w, hs, hc, h2, hI => by
    have := listed_pre (m := m) (n := n) (by omega) (count_true_pre (m := m) (n := n) (by omega) (by omega) h2) h2
    subst this
    exact rest a w hI
  | k + 1, listed, a, w, hs, hc, h2, hI => by
    have hnot : ¬ ∀ j : Nat, j < m → listed.getD j false = true := by
      intro h
      have e := listed_pre (m := m) (n := n) (by omega) h h2
      rw [e] at hc
      simp [preL, List.count_append, List.count_replicate] at hc
    show wpAny P .any ops Q ((n + k) + 1) listed a w
    refine ⟨fun hr => absurd (ready listed a w hs hI hr) hnot, fun i hi => ?_⟩
    have hi2 := hi
    have him : i < m := by
      rcases Nat.lt_or_ge i m with q | q
      · exact q
      · exfalso; apply hnot
        obtain ⟨o, ho, hdep⟩ := ready_of hi
        have h3 := List.all_eq_true.1 hsuf i (List.mem_range.2 (Array.getElem?_eq_some_iff.1 ho).1)
        rw [ho] at h3
        simp only [Bool.or_eq_true, decide_eq_true_eq] at h3
        rcases h3 with h3 | h3
        · omega
        · intro j hj
          exact needsOp_spec (hcl listed a w hI) _ o (List.all_eq_true.1 h3 j (List.mem_range.2 hj)) hdep
    refine wpOp_mono (fun a' w' h => wpAny_inv_pre4 hsz hsuf I hcl step ready rest k _ a' w' (by simpa using hs) ?_ ?_ h) (step listed a w i hs hI him hi)
    · have hm : i < ops.size ∧ listed.getD i true = false := by
        unfold Region.ready at hi2
        obtain ⟨g1, g2⟩ := List.mem_filter.1 hi2
        refine ⟨List.mem_range.1 g1, ?_⟩
        simp only [Bool.and_eq_true, Bool.not_eq_true'] at g2
        exact g2.1
      obtain ⟨g1, g2⟩ := hm
      have hlt : i < listed.size := by omega
      have hx : listed.toList[i]'(by simpa using hlt) = false := by simpa [Array.getD, hlt] using g2
      have := List.count_set (a := true) (b := false) (l := listed.toList) (i := i) (by simpa using hlt)
      simp only [Array.toList_setIfInBounds]
      have hpos : 0 < listed.toList.count false := List.count_pos_iff.2 (by rw [← hx]; exact List.getElem_mem _)
      rw [this, hx]
      have e1 : (if (false == false) = true then 1 else 0) = 1 := rfl
      have e2 : (if (true == false) = true then 1 else 0) = 0 := rfl
      rw [e1, e2]; omega
    · intro j hj
      rw [getD_set_ne false (by omega)]; exact h2 j hj
/-- THE RULE, where an operation behind the first m waits for all of these, if only by others. The first m operations in whatever order, each by its own fact; then the rest, from a state that is written out. -/
theorem wp_flow4 {P : Program} {l : List Oper} {Q : Exit → Act → World → Prop} {id : Nat} {a0 : Act} {W0 : World} (m n : Nat) (Fs : List Fact) (hm : P.follows .mixedOrders = true) (hln : l.length = m + n) (hfl : Fs.length = m)
    (hok : flowOK (l.take m).toArray a0.tmps.size = true) (hsuf : sufOK4 l.toArray m = true)
    (mono : factsMono Fs) (each : AllFrom (StepOK3 P l.toArray m Q W0 a0 (facts Fs)) 0 (l.take m))
    (rest : ∀ w, Ext W0 w → ForFacts Fs w (fun vs => wpAny P .any l.toArray Q n (preL m n) (putAll a0 (l.take m) vs) w)) : (Code.region id l.toArray true).wp P Q a0 W0 := by
  have hsz : l.toArray.size = m + n := by simpa using hln
  have hlt : (l.take m).length = m := by simp; omega
  have hpo : ∀ i o, i < m → l.toArray[i]? = some o → (l.take m).toArray[i]? = some o := fun i o hi ho => by
    rw [List.getElem?_toArray, List.getElem?_take_of_lt hi]; simpa using ho
  have hdep : ∀ i o e, i < m → l.toArray[i]? = some o → e ∈ o.after.toList → Region.binds .any e = true → e.on < i := fun i o e hi ho he hbd => by
    obtain ⟨d, -, -, -, h4⟩ := flow_dst hok (hpo i o hi ho)
    exact h4 e he hbd
  refine wp_region_any hm ?_
  have key := wpAny_inv_pre4 (P := P) (Q := Q) hsz hsuf (fun listed a w => (listed.size = m + n ∧ Closed l.toArray listed) ∧ Flow W0 a0 (l.take m).toArray (facts Fs) (listed.extract 0 m) a w) (fun listed a w h => h.1.2) ?_ ?_ ?_ m (Array.replicate l.toArray.size false) a0 { W0 with drawn := W0.drawn + 1 } (by simp) ?_ ?_ ?_
  · rw [Nat.add_comm] at key; rw [← hsz] at key; exact key
  · rintro listed a w i hs ⟨⟨hI0, hC⟩, hI⟩ him hi
    obtain ⟨o, ho, hd⟩ := ready_of hi
    have ho' := hpo i o him ho
    have hl : (l.take m)[i]? = some o := by simpa using ho'
    have hst := each.at_ i o hl
    rw [Nat.zero_add] at hst
    have hext : ∀ j : Nat, j < m → (listed.extract 0 m).getD j false = listed.getD j false := fun j hj => by
      rw [Array.getD_eq_getD_getElem?, Array.getD_eq_getD_getElem?, Array.getElem?_extract, if_pos (by omega), Nat.zero_add]
    have hset : (listed.setIfInBounds i true).extract 0 m = (listed.extract 0 m).setIfInBounds i true := by
      refine Array.ext_getElem? fun j => ?_
      rw [Array.getElem?_extract]
      by_cases hj : j < m
      · rw [if_pos (by simp; omega), Nat.zero_add]
        by_cases e : i = j
        · subst e
          rw [Array.getElem?_setIfInBounds_self_of_lt (by omega), Array.getElem?_setIfInBounds_self_of_lt (by simp; omega)]
        · rw [Array.getElem?_setIfInBounds_ne e, Array.getElem?_setIfInBounds_ne e, Array.getElem?_extract, if_pos (by omega), Nat.zero_add]
      · rw [if_neg (by omega), Array.getElem?_eq_none (by simp; omega)]
    rcases hst a w hI.ext (fun i' d hw hd' => by
        obtain ⟨o', h1, h2⟩ := dstIs_spec hd'
        have hi' : i' < i := by
          obtain ⟨e, he, h2⟩ := Array.any_eq_true'.1 hw
          simp only [Bool.and_eq_true, beq_iff_eq] at h2
          rw [← h2.1]; exact hdep i o e him ho (by simpa using he) h2.2
        refine hI.slot i' o' d ?_ (hpo i' o' (by omega) h1) h2
        rw [hext i' (by omega)]; exact waitsFor_spec hw hd) (fun s h => hI.base s (freeSlot_spec h)) with ⟨h1, h2⟩ | ⟨h1, h2⟩
    · refine wpOp_step' ho h1 (h2 _ fun v w' hv hx => ⟨⟨by simpa using hI0, hC.set hs hi⟩, ?_⟩)
      rw [hset]
      exact hI.put hok (facts_mono mono) (by simp; omega) ho' hv hx
    · refine wpOp_skip' ho h1 ⟨⟨by simpa using hI0, hC.set hs hi⟩, ?_⟩
      rw [hset]
      exact hI.put hok (facts_mono mono) (by simp; omega) ho' h2 (Ext.refl _)
  · rintro listed a w hs ⟨⟨hI0, -⟩, hI⟩ hr
    have : ∀ (k j : Nat), j < k → j < m → listed.getD j false = true := by
      intro k
      induction k with
      | zero => intro j h; omega
      | succ k ih =>
        intro j h1 h2
        by_cases hl : listed.getD j false = true
        · exact hl
        · exfalso
          have hj : l.toArray[j]? = some l.toArray[j] := Array.getElem?_eq_getElem (by omega)
          have hmem : j ∈ Region.ready .any l.toArray listed := by
            unfold Region.ready
            refine List.mem_filter.2 ⟨List.mem_range.2 (by omega), ?_⟩
            rw [hj]
            simp only [Bool.and_eq_true, Option.map_some, Option.getD_some]
            refine ⟨?_, Array.all_eq_true'.2 fun e he => ?_⟩
            · have h2' : j < listed.size := by omega
              simp only [Array.getD, h2', dif_pos] at hl ⊢
              simpa using hl
            · cases hbd : Region.binds .any e with
              | false => rfl
              | true =>
                have he' := hdep j _ e h2 hj (by simpa using he) hbd
                rw [ih e.on (by omega) (by omega)]; rfl
          rw [hr] at hmem; cases hmem
    exact fun j hj => this (j + 1) j (Nat.lt_succ_self j) hj
  · rintro a w ⟨-, hI⟩
    have hx := rest w hI.ext
    obtain ⟨vs, g1, g2, g3⟩ := forFacts_get (a := a) (os := l.take m) (by rw [hfl, hlt]) hx (fun j o hj => by
      obtain ⟨d, h1, h2, -, -⟩ := flow_dst hok (by simpa using hj)
      have hjm : j < m := by have := (List.getElem?_eq_some_iff.1 hj).1; omega
      obtain ⟨v, k1, k2⟩ := hI.slot j o d (by
        rw [Array.getD_eq_getD_getElem?, Array.getElem?_extract]
        rw [if_pos (by simp [preL]; omega)]
        simp [preL, List.getElem?_append, hjm]) (by simpa using hj) h1
      exact ⟨d, v, h1, k1, k2⟩)
    have ha : a = putAll a0 (l.take m) vs := eq_putAll g1 hI.size hI.defers (fun s hs => hI.base s (fun j o ho => hs o (by
        have : (l.take m)[j]? = some o := by simpa using ho
        exact List.mem_of_getElem? this))) (fun j o d hj hd => by
      obtain ⟨d', h1, h2, -, -⟩ := flow_dst hok (j := j) (by simpa using hj)
      rw [hd] at h1; injection h1 with h1; subst h1
      exact ⟨h2, g3 j o d hj hd⟩)
    rw [ha]; exact g2
  · rw [Array.toList_replicate, List.count_replicate]; simp; omega
  · intro j hj
    rw [Array.getD_eq_getD_getElem?, Array.getElem?_replicate]
    split <;> rfl
  · exact ⟨⟨by simpa using hsz, fun i o h => by
      rw [Array.getD_eq_getD_getElem?, Array.getElem?_replicate] at h
      split at h <;> cases h⟩, ⟨(Ext.refl W0).drew, rfl, rfl, fun s _ => rfl, fun j o d h _ _ => by
      rw [Array.getD_eq_getD_getElem?, Array.getElem?_extract] at h
      split at h
      · rw [Array.getElem?_replicate] at h; split at h <;> cases h
      · cases h⟩⟩
end Go.Proofs.Ytjagbnaacfhokaa
/- What sweep calls of Go's library: stores cloned, a number repeated, rows one behind the other; boxes of the call's own. -/
namespace Go.Proofs.Ytjagbnaacfhokaa
set_option linter.unusedVariables false
set_option linter.unusedSimpArgs false
open Go.RowKit

/-- A block of the call's own that holds these cells. -/
def Box (w : World) (b : Nat) (T : TypeId) (cs : List Value) : Prop := w.heap[b]? = some (.cells cs.toArray T (0, 0))
section
variable {w w' : World} {b : Nat} {T : TypeId} {cs : List Value}
theorem Box.lt (h : Box w b T cs) : b < w.heap.size := (Array.getElem?_eq_some_iff.1 h).1
theorem Box.cell (h : Box w b T cs) (k : Nat) : w.cell? ⟨b, k, none⟩ = cs[k]? := by rw [cell_of_row w b k cs.toArray T (0, 0) h]; simp
theorem Box.free (h : Box w b T cs) (k : Nat) : w.frozen? ⟨b, k, none⟩ = false := frozen_of_row w b k cs.toArray T h
theorem Box.ext (h : Box w b T cs) (hx : Ext w w') : Box w' b T cs := (hx.block b h.lt).trans h
theorem Box.set (h : Box w b T cs) (k : Nat) (u : Value) : Box (w.setCell ⟨b, k, none⟩ u) b T (cs.set k u) := by
  have := heap_setCell_same w b k cs.toArray T u h
  unfold Box; rw [this]; simp
theorem Box.kept {row : Option Nat} (h : Box w b T cs) (hg : w.grownBy w' row) (hne : row ≠ some b) : Box w' b T cs :=
  (hg.block b h.lt (fun e => hne e.symm)).trans h
theorem Box.new (w : World) (cs : List Value) (T : TypeId) : Box (w.alloc (.cells cs.toArray T)) w.heap.size T cs := heap_alloc_new w _
theorem Box.apart (h : Box w b T cs) {base : Nat} {e : TypeId} {size n : Nat} {v : Value} {xs : List Value} (ho : w.ownsRow base e size v n xs) (hne : e ≠ T) : v.ownBlock ≠ some b := by
  rcases ho.2 with ⟨rfl, _⟩ | ⟨g, cap, cur, rfl, _, hg, _⟩
  · simp [Value.ownBlock]
  · intro e1
    have e2 : g = b := Option.some.inj e1
    subst e2
    rw [h] at hg; injection hg with hg; injection hg with _ h3 _
    exact hne h3.symm
theorem own_set {base : Nat} {e : TypeId} {size n : Nat} {v : Value} {xs : List Value} (ho : w.ownsRow base e size v n xs) (hb : v.ownBlock ≠ some b) (k : Nat) (u : Value) : (w.setCell ⟨b, k, none⟩ u).ownsRow base e size v n xs := own_other ho hb
end

/-- Cells that stand behind one another from a slice's head on. -/
def SlC (w : World) (A : Option Addr) (cs : List Value) : Prop := ∀ (j : Nat) u, cs[j]? = some u → ∃ b off, A = some ⟨b, off, none⟩ ∧ w.cell? ⟨b, off + j, none⟩ = some u
theorem SlC.keep {w w' : World} {A : Option Addr} {cs : List Value} (h : SlC w A cs) (hk : Keeps w w') : SlC w' A cs :=
  fun j u hu => let ⟨b, o, e, hc⟩ := h j u hu; ⟨b, o, e, hk _ _ hc⟩
/-- append of all of a slice of elements of some cells onto a row of the call's own. -/
theorem wpList_appendC {P : Program} {ops : Array Oper} {rest : List Oper} {o : Oper} {a : Act} {Q : Exit → Act → World → Prop} {w : World} (hgd : o.guard = none) (s x : Operand) (t e : TypeId)
    (ho : o.op = .call { callee := .builtin .append, args := #[s, x], argTypes := #[t, t] })
    {z : Value} {size bytes : Nat} (tab : (P.info? e).map (fun i => (i.zero, i.size, i.bytes)) = some (some z, size, bytes)) (ht : P.underlying t = some (.slice e)) (hzs : z.cells.size = size) (hsz : 0 < size)
    (W0 : World) (hext : Ext W0 w) (v : Value) (n : Nat) (xs : List Value) (hs : a.eval s = v) (hown : w.ownsRow W0.heap.size e size v n xs)
    (A : Option Addr) (m c : Nat) (news : List Value) (hx : a.eval x = .slice A m c) (hl : news.length = m * size) (hr : SlC w A news) (h1 : ∀ u ∈ news, u.oneCell' = true)
    (h63 : n + m ≤ maxLen) (hbytes : (n + m) * bytes ≤ 140737488355328)
    (h : ∀ v' w', w'.ownsRow W0.heap.size e size v' (n + m) (xs ++ news) → Ext W0 w' → w.grownBy w' v.ownBlock → wpList P ops Q rest (a.put o.dst v') w') : wpList P ops Q (o :: rest) a w := by
  obtain ⟨i, hi, hz, hs1, hs2⟩ := info_parts tab
  have hb : ∀ k, v.ownBlock = some k → W0.heap.size ≤ k := fun k hk => (hown.lt k hk).1
  cases A with
  | none =>
    have hm : m = 0 := by
      rcases Nat.eq_zero_or_pos m with e | e
      · exact e
      · have hl : 0 < news.length := by rw [hl]; exact Nat.mul_pos e hsz
        obtain ⟨b, off, e2, _⟩ := hr 0 _ (List.getElem?_eq_getElem hl)
        cases e2
    subst hm
    have hn : news = [] := List.eq_nil_of_length_eq_zero (by simpa using hl)
    subst hn
    refine wpList_plain hgd fun K hK => ?_
    unfold Oper.wp execOp
    simp only [ho, resolve, invoke, builtin, Sem.run_bind, Sem.run_pure, Result.andThen_ok, List.map_toArray, List.map_cons, List.map_nil, hs, hx, append_of_nil (P := P) w W0.heap.size t o.type e i size ht hi v n xs hown c]
    exact hK _ _ (h v w (by simpa using hown) hext (World.grownBy.refl w _))
  | some ad =>
    have hcells : ∀ j u, news[j]? = some u → w.cell? (ad.add j) = some u := by
      intro j u hu
      obtain ⟨b, off, e2, hc⟩ := hr j u hu
      injection e2 with e2
      subst e2
      rw [add_plain']; exact hc
    refine wpList_append_own _ hgd s x t ho W0.heap.size e i z size bytes ht hi hz hs1 hs2 hzs hsz v n xs hs hown ad m c news hx hl hcells h1 h63 hbytes hext.size ?_
    intro v' w' hown' hg _
    exact h v' w' hown' (Below.grown hext hg hext.size hb) hg

def storeCs (rs : List StoreM) : List Value := rs.flatMap fun r => [RB r, RN r]
theorem storeCs_len (rs : List StoreM) : (storeCs rs).length = rs.length * 2 := by
  unfold storeCs
  induction rs with
  | nil => rfl
  | cons r rs ih => simp only [List.flatMap_cons, List.length_append, List.length_cons, List.length_nil, ih]; omega
theorem storeCs_one (rs : List StoreM) : ∀ u ∈ storeCs rs, u.oneCell' = true := by
  intro u hu
  obtain ⟨r, _, hr⟩ := List.mem_flatMap.1 hu
  simp at hr
  rcases hr with rfl | rfl <;> rfl
theorem slR_cells {w : World} {A : Option Addr} {n : Nat} {rs : List StoreM} (h : SlR w A n rs) : SlC w A (storeCs rs) := by
  intro j u hu
  have hl := storeCs_len rs
  have hj := (List.getElem?_eq_some_iff.1 hu).1
  have hk : j / 2 < rs.length := by omega
  obtain ⟨b, off, e, h0, h1⟩ := h.2 (j / 2) _ (List.getElem?_eq_getElem hk)
  have hf := flat2_get RB RN rs (j / 2)
  rw [List.getElem?_eq_getElem hk] at hf
  refine ⟨b, off, e, ?_⟩
  rcases Nat.mod_two_eq_zero_or_one j with q | q
  · have ej : j / 2 * 2 = j := by omega
    rw [ej] at h0 hf
    unfold storeCs at hu; rw [hf.1] at hu
    rw [h0]; simpa using hu
  · have ej : j / 2 * 2 + 1 = j := by omega
    rw [Nat.add_assoc, ej] at h1
    rw [ej] at hf
    unfold storeCs at hu; rw [hf.2] at hu
    rw [h1]; simpa using hu
theorem slR_own {w : World} {base : Nat} {A : Option Addr} {n c : Nat} {rs : List StoreM} (h : w.ownsRow base 78 2 (.slice A n c) n (storeCs rs)) : SlR w A n rs := by
  have hl : rs.length = n := by have := h.1; rw [storeCs_len] at this; omega
  obtain ⟨A', c', e, -, -, hc⟩ := own_slice h
  injection e with e _ _; subst e
  refine ⟨hl, fun k r hr => ?_⟩
  have hf := flat2_get RB RN rs k
  rw [hr] at hf
  obtain ⟨b, off, e1, c1⟩ := hc _ _ hf.1
  obtain ⟨b', off', e2, c2⟩ := hc _ _ hf.2
  rw [e1] at e2; injection e2 with e2; injection e2 with e2 e3; subst e2; subst e3
  exact ⟨b, off, e1, c1, c2⟩
theorem tab_store : (Try.prog.info? 78).map (fun i => (i.zero, i.size, i.bytes)) = some (some (.agg #[.bool false, .int .i64 0]), 2, 16) := by kernel_rfl
/-- slices.Clone of stores: a row of the call's own. -/
theorem cloneStores_any (A : Option Addr) (n c : Nat) (rs : List StoreM) (w : World) (h : SlR w A n rs) (hn : n ≤ 1000000) :
    Calls Try.prog 105 #[.slice A n c] w fun e w' => ∃ v, e = .returned v ∧ w'.ownsRow w.heap.size 78 2 v n (storeCs rs) ∧ Ext w w' := by
  have hnil := fun W a l c => Lib.run_eql_slice_nil (P := Try.prog) W 23 78 a l c 0 0 Try.underlying23
  cases A with
  | none =>
    have hm : n = 0 := by
      rcases Nat.eq_zero_or_pos n with e | e
      · exact e
      · obtain ⟨b, off, x, e2, _⟩ := h.next e; cases e2
    subst hm
    have hx : rs = [] := List.eq_nil_of_length_eq_zero h.1
    subst hx
    go_enter Try.func105, Try.ntmps105
    go_wp2
    go_ret
    exact ⟨_, rfl, World.ownsRow_nil _ _ _ _, Ext.refl _⟩
  | some ad =>
    have H := Lib.hid (h.keep (Keeps.alloc w (.cells #[] 78))); clear h
    go_enter Try.func105, Try.ntmps105
    go_wp2_with (at_builtin; refine wpList_appendC rfl (.tmp 5) (.tmp 6) 23 78 rfl tab_store Try.underlying23 rfl (by omega) w ((Ext.refl w).alloc _) _ 0 [] rfl (own_empty w _ _ _ (Nat.le_refl _)) (some ad) n c (storeCs rs) rfl (by rw [storeCs_len, H.out.1]) (slR_cells H.out) (storeCs_one rs) (by unfold maxLen; omega) (by omega) ?_; intro v' w2 hown2 hx3 _)
    go_ret
    exact ⟨_, rfl, by simpa using hown2, hx3⟩
end Go.Proofs.Ytjagbnaacfhokaa
