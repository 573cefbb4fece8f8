/- text.Read walked. -/
import Derived.Test.YtncakjhianmekaaTextNode2
import Derived.Recover
namespace Go.Proofs.Ytncakjhianmekaa
set_option linter.unusedVariables false
set_option linter.unusedSimpArgs false
open Go.RowKit

theorem wpS_of_wpR {P : Program} {c : Code} {Q : Exit → Act → List Frame → World → Prop} {a : Act} {cs : List Frame} {w : World} (h : ∀ Q' : Exit → Act → World → Prop, (∀ e a' w', Q e a' cs w' → Q' e a' w') → c.wp P Q' a w) : c.wpS P Q a cs w :=
  wpS_of_wp (h _ fun _ _ _ h => h)
theorem makeFunc_anyR (fn : Fn) (first cap : Array Value) (w : World) : (Instr.makeFunc fn first cap).run Try.prog w = .ok (.func fn first cap) w := rfl
/-- The deferred closure, where something was thrown. -/
theorem rd_thrown (p q : Addr) (u v : Value) (older : List PanicEntry) (w : World) (hc : w.cell? p = some u) (hz : w.frozen? p = false) (hd : w.cell? q = some v) (hy : w.frozen? q = false) (hpq : p ≠ q) :
    CallsD Try.prog 18 #[.pointer (some p), .pointer (some q)] (.panicking (broken :: older)) w fun en u' w' =>
      en = .returned (.tuple #[]) ∧ u' = .panicking ({ broken with recovered := true } :: older) ∧ w' = (w.setCell p (.slice none 0 0)).setCell q (I 1) := by
  have hd2 : ∀ x, (w.setCell p x).cell? q = some v := fun x => (World.cell?_setCell_other _ _ _ _ hpq).trans hd
  refine callsD_of_wpS Try.func18 rfl fun c₀ cs hu => ?_
  simp only [Try.ntmps18, List.size_toArray, List.length_cons, List.length_nil, Nat.reduceAdd, Nat.reduceSub, Array.replicate_succ, Array.replicate_zero, List.push_toArray, List.append_toArray, List.nil_append, List.cons_append]
  apply wpS_seq
  apply wpS_region
  simp [wpOpsS, go_sem, recoverD, hu, Exit.thenS]
  refine wpS_of_wpR fun Q hQ => ?_
  have HU := Lib.hid hu; clear hu
  go_wp2
  simp [bodyPostS, results, Try.results18]
theorem rd_idle (p q : Addr) (w : World) :
    CallsD Try.prog 18 #[.pointer (some p), .pointer (some q)] .returning w fun e u' w' => e = .returned (.tuple #[]) ∧ u' = .returning ∧ w' = w := by
  refine callsD_of_wpS Try.func18 rfl fun c₀ cs hu => ?_
  simp only [Try.ntmps18, List.size_toArray, List.length_cons, List.length_nil, Nat.reduceAdd, Nat.reduceSub, Array.replicate_succ, Array.replicate_zero, List.push_toArray, List.append_toArray, List.nil_append, List.cons_append]
  apply wpS_seq
  apply wpS_region
  simp [wpOpsS, go_sem, recoverD, hu, Exit.thenS]
  refine wpS_of_wpR fun Q hQ => ?_
  have HU := Lib.hid hu; clear hu
  go_wp2
  have hu := HU.out
  cases c₀
  simp_all [bodyPostS, results, Try.results18]
/-- Read's door, behind a panic. -/
theorem rdoor_panic (tmps : Array Value) (p q : Addr) (u v : Value) (R : Ending → World → Prop) (w : World) (hc : w.cell? p = some u) (hz : w.frozen? p = false) (hd : w.cell? q = some v) (hy : w.frozen? q = false) (hpq : p ≠ q) (h2 : tmps.getD 2 undef = .pointer (some p)) (h3 : tmps.getD 3 undef = .pointer (some q))
    (hR : R (.returned (Pr (.slice none 0 0) (I 1))) ((w.setCell p (.slice none 0 0)).setCell q (I 1))) :
    bodyPostD Try.prog Try.f8 R (Exit.panic [broken]) { tmps := tmps, defers := [{ target := .fn (.func 18) #[.pointer (some p), .pointer (some q)], args := #[] }] } w := by
  have c3 : ((w.setCell p (.slice none 0 0)).setCell q (I 1)).cell? p = some (.slice none 0 0) := (World.cell?_setCell_other _ _ _ _ (Ne.symm hpq)).trans (World.cell?_setCell_same _ _ _ hc)
  have d3 : ((w.setCell p (.slice none 0 0)).setCell q (I 1)).cell? q = some (I 1) := World.cell?_setCell_same _ _ _ ((World.cell?_setCell_other _ _ _ _ hpq).trans hd)
  refine leaves_cons (f := 18) (args := #[.pointer (some p), .pointer (some q)]) (by simp) (by simp [go_sem]) ?_
  refine (rd_thrown p q u v [] _ hc hz hd hy hpq).mono ?_
  rintro en u' w'' ⟨rfl, rfl, rfl⟩
  generalize (w.setCell p (.slice none 0 0)).setCell q (I 1) = W at hR c3 d3
  have h2' : tmps[2]?.getD undef = .pointer (some p) := by simpa using h2
  have h3' : tmps[3]?.getD undef = .pointer (some q) := by simpa using h3
  simp [Leaves, settle, results, Try.results8, go_sem, h2, h2', h3, h3', c3, d3, hR]
/-- Read's door, where nothing was thrown. -/
theorem rdoor_ok (ex : Exit) (hex : ex = .ret ∨ ex = .normal) (tmps : Array Value) (p q : Addr) (u v : Value) (R : Ending → World → Prop) (w : World) (hc : w.cell? p = some u) (hd : w.cell? q = some v) (h2 : tmps.getD 2 undef = .pointer (some p)) (h3 : tmps.getD 3 undef = .pointer (some q))
    (hR : R (.returned (Pr u v)) w) :
    bodyPostD Try.prog Try.f8 R ex { tmps := tmps, defers := [{ target := .fn (.func 18) #[.pointer (some p), .pointer (some q)], args := #[] }] } w := by
  have h2' : tmps[2]?.getD undef = .pointer (some p) := by simpa using h2
  have h3' : tmps[3]?.getD undef = .pointer (some q) := by simpa using h3
  rcases hex with rfl | rfl
  all_goals
    refine leaves_cons (f := 18) (args := #[.pointer (some p), .pointer (some q)]) (by simp) (by simp [go_sem]) ?_
    refine (rd_idle p q _).mono ?_
    rintro en u' w'' ⟨rfl, rfl, rfl⟩
    simp [Leaves, settle, results, Try.results8, go_sem, h2, h2', h3, h3', hc, hd, hR]

set_option maxHeartbeats 2000000 in
theorem read_many (s : List UInt8) (w : World) (hs : 4096 < s.length) (hm : s.length ≤ maxLen) :
    Calls Try.prog 8 #[S s] w fun e w' => e = .returned (Pr (.slice none 0 0) (I 2)) ∧ Ext w w' := by
  unfold maxLen at hm
  go_enter_defers Try.func8, Try.ntmps8
  go_wp2_with fail
  have c3 : ((w.alloc (.cells #[.slice none 0 0] 22)).alloc (.cells #[.int .i64 2] 23)).cell? ⟨w.heap.size, 0, none⟩ = some (.slice none 0 0) :=
    Keeps.alloc _ _ _ _ (by rw [World.cell?_alloc_new]; rfl)
  have d3 : ((w.alloc (.cells #[.slice none 0 0] 22)).alloc (.cells #[.int .i64 2] 23)).cell? ⟨w.heap.size + 1, 0, none⟩ = some (I 2) := by
    have := World.cell?_alloc_new (w := w.alloc (.cells #[.slice none 0 0] 22)) #[I 2] 23 0
    rw [World.size_alloc] at this
    rw [this]; rfl
  have hx := ((Ext.refl w).alloc (.cells #[.slice none 0 0] 22)).alloc (.cells #[.int .i64 2] 23)
  generalize (w.alloc (.cells #[.slice none 0 0] 22)).alloc (.cells #[.int .i64 2] 23) = W at c3 d3 hx
  simp [bodyPostD, Leaves, settle, results, Try.results8, go_sem, c3, d3, hx]

/-- Read's world behind its head: the results' cells. -/
def rdW (w : World) : World := (w.alloc (.cells #[.slice none 0 0] 22)).alloc (.cells #[.int .i64 0] 23)
theorem rdW_ext (w : World) : Ext w (rdW w) := ((Ext.refl w).alloc _).alloc _
theorem rdW_size (w : World) : (rdW w).heap.size = w.heap.size + 2 := by simp [rdW]
theorem rdW_c (w : World) : (rdW w).cell? ⟨w.heap.size, 0, none⟩ = some (.slice none 0 0) := Keeps.alloc _ _ _ _ (by rw [World.cell?_alloc_new]; rfl)
theorem rdW_d (w : World) : (rdW w).cell? ⟨w.heap.size + 1, 0, none⟩ = some (I 0) := by
  have := World.cell?_alloc_new (w := w.alloc (.cells #[.slice none 0 0] 22)) #[I 0] 23 0
  rw [World.size_alloc] at this
  unfold rdW; rw [this]; rfl
theorem rdW_f (w : World) : (rdW w).frozen? ⟨w.heap.size, 0, none⟩ = false := by
  unfold rdW
  refine (Below.frozen (p := ⟨w.heap.size, 0, none⟩) ((Ext.refl _).alloc _) (by simp)).trans ?_
  exact World.frozen?_alloc_at _ _ _ _ rfl
theorem rdW_g (w : World) : (rdW w).frozen? ⟨w.heap.size + 1, 0, none⟩ = false := by
  unfold rdW; exact World.frozen?_alloc_at _ _ _ _ (by simp)
theorem rs_new (W : World) (s : List UInt8) (hs : s.length ≤ 5000) (b : Nat) (hb : b = W.heap.size) : RS W b (W.alloc (.cells #[S s, .slice none 0 0] 43)) s [] := by
  subst hb
  refine ⟨(Ext.refl _).alloc _, Nat.le_refl _, by rw [World.cell?_alloc_new]; rfl, World.frozen?_alloc_at _ _ _ _ rfl, ⟨.slice none 0 0, by rw [World.cell?_alloc_new]; rfl, World.ownsRow_nil _ _ _ _⟩, World.frozen?_alloc_at _ _ _ _ rfl, hs⟩
/-- Where something was thrown. -/
theorem rd_fail {w wx : World} (hx : Ext (rdW w) wx) (tmps : Array Value) (h2 : tmps.getD 2 undef = .pointer (some ⟨w.heap.size, 0, none⟩)) (h3 : tmps.getD 3 undef = .pointer (some ⟨w.heap.size + 1, 0, none⟩)) :
    bodyPostD Try.prog Try.f8 (fun e w' => e = .returned (Pr (.slice none 0 0) (I 1)) ∧ Ext w w') (Exit.panic [broken]) { tmps := tmps, defers := [{ target := .fn (.func 18) #[.pointer (some ⟨w.heap.size, 0, none⟩), .pointer (some ⟨w.heap.size + 1, 0, none⟩)], args := #[] }] } wx := by
  have s0 := rdW_size w
  refine rdoor_panic tmps ⟨w.heap.size, 0, none⟩ ⟨w.heap.size + 1, 0, none⟩ (.slice none 0 0) (I 0) _ wx (hx.keeps _ _ (rdW_c w)) ?_ (hx.keeps _ _ (rdW_d w)) ?_ (by simp) h2 h3 ⟨rfl, ?_⟩
  · exact (Below.frozen (p := ⟨w.heap.size, 0, none⟩) hx (by show w.heap.size < _; omega)).trans (rdW_f w)
  · exact (Below.frozen (p := ⟨w.heap.size + 1, 0, none⟩) hx (by show w.heap.size + 1 < _; omega)).trans (rdW_g w)
  · exact (((rdW_ext w).trans hx).setCell (by exact Nat.le_refl _) _).setCell (by exact Nat.le_succ _) _
set_option maxHeartbeats 2000000 in
theorem read_none (s : List UInt8) (w : World) (hs : s.length ≤ 4096) (hq : readT 15 14 s = none) :
    Calls Try.prog 8 #[S s] w fun e w' => e = .returned (Pr (.slice none 0 0) (I 1)) ∧ Ext w w' := by
  have hmf := makeFunc_anyR
  have HQ := Lib.hid hq
  have HE : Hid ((w.alloc (.cells #[.slice none 0 0] 22)).alloc (.cells #[.int .i64 0] 23) = rdW w) := rfl
  have hsz := rdW_size w
  clear hq
  go_enter_defers Try.func8, Try.ntmps8
  go_wp2_with fail
  rw [HE.out]
  refine ((node_ok 15).no (rs_new (rdW w) s (by omega) _ (by rw [hsz])) (left := 14) rfl (by omega) HQ.out).mono ?_; rintro e w1 ⟨rfl, x1⟩
  go_wp2
  exact rd_fail x1 _ rfl rfl
set_option maxHeartbeats 2000000 in
theorem read_more (s : List UInt8) (w : World) (hs : s.length ≤ 4096) (t : Tr) (r : List UInt8) (hq : readT 15 14 s = some (t, r)) (hr : r ≠ []) :
    Calls Try.prog 8 #[S s] w fun e w' => e = .returned (Pr (.slice none 0 0) (I 1)) ∧ Ext w w' := by
  have hmf := makeFunc_anyR
  have HQ := Lib.hid hq
  have HE : Hid ((w.alloc (.cells #[.slice none 0 0] 22)).alloc (.cells #[.int .i64 0] 23) = rdW w) := rfl
  have hsz := rdW_size w
  clear hq
  go_enter_defers Try.func8, Try.ntmps8
  go_wp2_with fail
  rw [HE.out]
  refine ((node_ok 15).yes (rs_new (rdW w) s (by omega) _ (by rw [hsz])) (left := 14) rfl (by omega) HQ.out).mono ?_; rintro e w1 ⟨rfl, h1⟩
  have c0 := h1.c0
  have X1 := Lib.hid h1.ext; clear h1
  go_wp2
  exact rd_fail X1.out _ rfl rfl
theorem own_nodes {w : World} {base n : Nat} {v : Value} {ps : List PNode} (h : w.ownsRow base 37 2 v n (flatN ps)) : ∃ A c, v = .slice A n c ∧ n ≤ c ∧ c ≤ maxLen ∧ SlN w A n ps := by
  obtain ⟨A, c, hv, h1, h2, hc⟩ := own_slice h
  refine ⟨A, c, hv, h1, h2, ?_, fun k x hx => ?_⟩
  · have := h.1; rw [flatN_len] at this; omega
  · have hg := flat2_get PK PS ps k
    rw [hx] at hg
    obtain ⟨b, off, e1, g1⟩ := hc _ _ hg.1
    obtain ⟨b', off', e2, g2⟩ := hc _ _ hg.2
    rw [e1] at e2
    injection e2 with e2; injection e2 with e2 e3
    subst e2; subst e3
    exact ⟨b, off, e1, g1, g2⟩
set_option maxHeartbeats 2000000 in
theorem read_ok (s : List UInt8) (w : World) (hs : s.length ≤ 4096) (t : Tr) (hq : readT 15 14 s = some (t, [])) :
    Calls Try.prog 8 #[S s] w fun e w' => ∃ A c, e = .returned (Pr (.slice A t.size c) (I 0)) ∧ SlN w' A t.size t.flat ∧ t.size ≤ c ∧ c ≤ maxLen ∧ Ext w w' := by
  have hmf := makeFunc_anyR
  have hck : checkP t.flat = 0 := by
    have := read_sound 15 _ _ _ _ hq
    exact tree_check this.ok this.small this.good
  have hst : t.size ≤ 14 := read_small hq
  have HK := Lib.hid hck; have HST := Lib.hid hst
  have HQ := Lib.hid hq
  have HE : Hid ((w.alloc (.cells #[.slice none 0 0] 22)).alloc (.cells #[.int .i64 0] 23) = rdW w) := rfl
  have hsz := rdW_size w
  clear hq hck hst
  go_enter_defers Try.func8, Try.ntmps8
  go_wp2_with fail
  rw [HE.out]
  refine ((node_ok 15).yes (rs_new (rdW w) s (by omega) _ (by rw [hsz])) (left := 14) rfl (by omega) HQ.out).mono ?_; rintro e w1 ⟨rfl, h1⟩
  have c0 := h1.c0
  obtain ⟨v, c1, ho⟩ := h1.c1
  simp only [List.nil_append] at ho
  obtain ⟨A, c, rfl, hnc, hcm, hsl⟩ := own_nodes ho
  rw [flat_size] at c1 hsl hnc
  have X1 := Lib.hid h1.ext; have C1 := Lib.hid c1; have HSL := Lib.hid hsl; have HNC := Lib.hid hnc; have HCM := Lib.hid hcm; have HO := Lib.hid ho
  clear h1 ho hsl hnc hcm
  go_wp2_with fail
  refine (progCheck_any A t.size c t.flat w1 HSL.out (by have := HST.out; unfold maxLen; omega)).mono ?_; rintro e w2 ⟨rfl, x2⟩; rw [HK.out]
  have c2 := x2.keeps _ _ C1.out
  have e0 := (X1.out.trans x2).keeps _ _ (rdW_c w)
  have e1 := (X1.out.trans x2).keeps _ _ (rdW_d w)
  have f0 : w2.frozen? ⟨w.heap.size, 0, none⟩ = false := (Below.frozen (p := ⟨w.heap.size, 0, none⟩) (X1.out.trans x2) (by show w.heap.size < _; omega)).trans (rdW_f w)
  have f1 : w2.frozen? ⟨w.heap.size + 1, 0, none⟩ = false := (Below.frozen (p := ⟨w.heap.size + 1, 0, none⟩) (X1.out.trans x2) (by show w.heap.size + 1 < _; omega)).trans (rdW_g w)
  have X2 := Lib.hid (X1.out.trans x2); have X12 := Lib.hid x2; clear x2
  go_wp2
  have ho2 := own_ext HO.out X12.out
  have ho3 := (ho2.kept (rs_set w2 w.heap.size 0 (.slice A t.size c)) (by
    cases hb : Value.ownBlock (.slice A t.flat.length c) with
    | none => exact .inl rfl
    | some b => exact .inr (fun e => by have := (ho2.lt b hb).1; injection e with e; omega)))
  have ho4 := (ho3.kept (rs_set _ (w.heap.size + 1) 0 (I 0)) (by
    cases hb : Value.ownBlock (.slice A t.flat.length c) with
    | none => exact .inl rfl
    | some b => exact .inr (fun e => by have := (ho2.lt b hb).1; injection e with e; omega)))
  rw [flat_size] at ho4
  obtain ⟨A', c', hv, -, -, hsl⟩ := own_nodes ho4
  injection hv with hv1 _ _
  subst hv1
  refine rdoor_ok _ (.inl rfl) _ ⟨w.heap.size, 0, none⟩ ⟨w.heap.size + 1, 0, none⟩ (.slice A t.size c) (I 0) _ _ ?_ ?_ rfl rfl ⟨A, c, rfl, hsl, HNC.out, HCM.out, ?_⟩
  · exact (World.cell?_setCell_other _ _ _ _ (by simp)).trans (World.cell?_setCell_same _ _ _ e0)
  · exact World.cell?_setCell_same _ _ _ ((World.cell?_setCell_other _ _ _ _ (by simp)).trans e1)
  · exact (((rdW_ext w).trans X2.out).setCell (by exact Nat.le_refl _) _).setCell (by exact Nat.le_succ _) _
end Go.Proofs.Ytncakjhianmekaa
