/- text's reader: may, must, put, sign. -/
import Derived.Test.YtncakjhianmekaaTextCut
import Derived.Test.YtncakjhianmekaaPg4
import Derived.Maps.AppendAt
import Derived.Deep.AppendLies
namespace Go.Proofs.Ytncakjhianmekaa
set_option linter.unusedVariables false
set_option linter.unusedSimpArgs false
open Go.RowKit

/-- What is thrown. -/
abbrev broken : PanicEntry := { v := .iface 45 (.agg #[]), recovered := false }
abbrev flatN (ps : List PNode) : List Value := ps.flatMap fun x => [PK x, PS x]
theorem flatN_snoc (ps : List PNode) (x : PNode) : flatN (ps ++ [x]) = flatN ps ++ [PK x, PS x] := by simp [flatN]
/-- A reader in block g: what is left of the text, and the nodes that came. -/
structure RS (W0 : World) (g : Nat) (w : World) (s : List UInt8) (ps : List PNode) : Prop where
  ext : Ext W0 w
  low : W0.heap.size ≤ g
  c0 : w.cell? ⟨g, 0, none⟩ = some (S s)
  f0 : w.frozen? ⟨g, 0, none⟩ = false
  c1 : ∃ v, w.cell? ⟨g, 1, none⟩ = some v ∧ w.ownsRow (g + 1) 37 2 v ps.length (flatN ps)
  f1 : w.frozen? ⟨g, 1, none⟩ = false
  short : s.length ≤ 5000
section
variable {W0 w : World} {g : Nat} {s : List UInt8} {ps : List PNode}
theorem rs_set (w : World) (g j : Nat) (v : Value) : w.grownBy (w.setCell ⟨g, j, none⟩ v) (some g) :=
  ⟨rfl, rfl, rfl, by simp, fun i _ hi => heap_setCell_other w ⟨g, j, none⟩ i v (fun e => hi (by simp [e]))⟩
theorem RS.lt (h : RS W0 g w s ps) : g < w.heap.size := lt_of_cell h.c0
/-- Another text is left. -/
theorem RS.rest (h : RS W0 g w s ps) (r : List UInt8) (hr : r.length ≤ 5000) : RS W0 g (w.setCell ⟨g, 0, none⟩ (S r)) r ps := by
  obtain ⟨v, hv, ho⟩ := h.c1
  refine ⟨h.ext.setCell h.low _, h.low, World.cell?_setCell_same _ _ _ h.c0, ?_, ⟨v, ?_, ?_⟩, ?_, hr⟩
  · rw [World.frozen?_setCell]; exact h.f0
  · rw [World.cell?_setCell_other _ _ _ _ (by simp)]; exact hv
  · exact ho.kept (rs_set w g 0 (S r)) (by
      cases hb : v.ownBlock with
      | none => exact .inl rfl
      | some b => exact .inr (fun e => by have := (ho.lt b hb).1; injection e with e; omega))
  · rw [World.frozen?_setCell]; exact h.f1
theorem RS.alloc (h : RS W0 g w s ps) (o : Obj) : RS W0 g (w.alloc o) s ps := by
  obtain ⟨v, hv, ho⟩ := h.c1
  have hlt := h.lt
  refine ⟨h.ext.alloc _, h.low, Keeps.alloc _ _ _ _ h.c0, ?_, ⟨v, Keeps.alloc _ _ _ _ hv, ho.alloc _⟩, ?_, h.short⟩
  · exact (Below.frozen (p := ⟨g, 0, none⟩) ((Ext.refl w).alloc o) hlt).trans h.f0
  · exact (Below.frozen (p := ⟨g, 1, none⟩) ((Ext.refl w).alloc o) hlt).trans h.f1
/-- A node was put. -/
theorem RS.put (h : RS W0 g w s ps) {v v' : Value} {w1 : World} {o : Obj} {x : PNode} (c1 : w.cell? ⟨g, 1, none⟩ = some v) (ho : w.ownsRow (g + 1) 37 2 v ps.length (flatN ps)) (hg : (w.alloc o).grownBy w1 v.ownBlock)
    (hown : w1.ownsRow (g + 1) 37 2 v' (ps.length + 1) (flatN ps ++ [PK x, PS x])) : RS W0 g (w1.setCell ⟨g, 1, none⟩ v') s (ps ++ [x]) := by
  have hlt := h.lt
  have ha := h.alloc o
  have hne : ∀ j, v.ownBlock = some j → g + 1 ≤ j := fun j hj => (ho.lt j hj).1
  have hne' : some g ≠ v.ownBlock := fun e => by have := hne g e.symm; omega
  have hv1 := hg.cell (a := ⟨g, 1, none⟩) (Keeps.alloc w o _ _ c1) hne'
  refine ⟨(Below.grown ha.ext hg (Nat.le_trans h.ext.size (by simp)) (fun k hk => Nat.le_trans h.low (Nat.le_of_succ_le (hne k hk)))).setCell h.low _, h.low, ?_, ?_, ⟨v', ?_, ?_⟩, ?_, h.short⟩
  · rw [World.cell?_setCell_other _ _ _ _ (by simp)]; exact hg.cell ha.c0 hne'
  · rw [World.frozen?_setCell, hg.frozen_far ⟨g, 0, none⟩ (by simp; omega) hne']; exact ha.f0
  · exact World.cell?_setCell_same _ _ _ hv1
  · rw [flatN_snoc, List.length_append]
    exact hown.kept (rs_set w1 g 1 v') (by
      cases hb : v'.ownBlock with
      | none => exact .inl rfl
      | some b => exact .inr (fun e => by have := (hown.lt b hb).1; injection e with e; omega))
  · rw [World.frozen?_setCell, hg.frozen_far ⟨g, 1, none⟩ (by simp; omega) hne']; exact ha.f1
end
theorem rest_len (w s : List UInt8) : (restP w s).length ≤ s.length := by
  cases h : isP w s
  · rw [restP_no h]; exact Nat.le_refl _
  · rw [restP_yes h]; simp
theorem may_any {W0 : World} {g : Nat} {w : World} {s : List UInt8} {ps : List PNode} (h : RS W0 g w s ps) (word : List UInt8) (hw : word.length ≤ 1000) :
    Calls Try.prog 27 #[.pointer (some ⟨g, 0, none⟩), S word] w fun e w' => e = .returned (.bool (isP word s)) ∧ w' = w.setCell ⟨g, 0, none⟩ (S (restP word s)) := by
  have c0 := h.c0; have f0 := h.f0
  have hs := h.short
  have H := Lib.hid h; clear h
  go_enter Try.func27, Try.ntmps27
  go_wp2_with fail
  refine (cutPrefix_any s word (by omega) (by omega) _).mono ?_; rintro e w1 ⟨rfl, rfl⟩
  go_wp2
  go_ret
  exact ⟨rfl, rfl⟩
theorem must_yes {W0 : World} {g : Nat} {w : World} {s : List UInt8} {ps : List PNode} (h : RS W0 g w s ps) (word : List UInt8) (hw : word.length ≤ 1000) (hy : isP word s = true) :
    Calls Try.prog 31 #[.pointer (some ⟨g, 0, none⟩), S word] w fun e w' => e = .returned (.tuple #[]) ∧ w' = w.setCell ⟨g, 0, none⟩ (S (restP word s)) := by
  have H := Lib.hid h; have HY := Lib.hid hy; clear h hy
  go_enter Try.func31, Try.ntmps31
  go_wp2_with fail
  refine (may_any H.out word hw).mono ?_; rintro e w1 ⟨rfl, rfl⟩; rw [HY.out]
  go_wp2
  go_end0
  exact ⟨rfl, rfl⟩
theorem must_no {W0 : World} {g : Nat} {w : World} {s : List UInt8} {ps : List PNode} (h : RS W0 g w s ps) (word : List UInt8) (hw : word.length ≤ 1000) (hy : isP word s = false) :
    Calls Try.prog 31 #[.pointer (some ⟨g, 0, none⟩), S word] w fun e w' => e = .panicked [broken] ∧ Ext W0 w' := by
  have H := Lib.hid h; have HY := Lib.hid hy; clear h hy
  go_enter Try.func31, Try.ntmps31
  go_wp2_with fail
  refine (may_any H.out word hw).mono ?_; rintro e w1 ⟨rfl, rfl⟩; rw [HY.out]
  go_wp2
  exact ⟨rfl, rfl, (H.out.rest _ (by have := rest_len word s; have := H.out.short; omega)).ext⟩
theorem tab_node : (Try.prog.info? 37).map (fun i => (i.zero, i.size, i.bytes)) = some (some (.agg #[.int .i64 0, .int .i64 0]), 2, 16) := by kernel_rfl
theorem put_full {W0 : World} {g : Nat} {w : World} {s : List UInt8} {ps : List PNode} (h : RS W0 g w s ps) (kd sg : Int) (hf : ps.length = 14) :
    Calls Try.prog 28 #[.pointer (some ⟨g, 0, none⟩), I kd, I sg] w fun e w' => e = .panicked [broken] ∧ Ext W0 w' := by
  obtain ⟨v, c1, ho⟩ := h.c1
  obtain ⟨A, c, rfl, -, -, -⟩ := own_slice ho
  rw [hf] at c1
  have H := Lib.hid h; clear h ho
  go_enter Try.func28, Try.ntmps28
  go_wp2
  exact ⟨rfl, rfl, H.out.ext⟩
theorem put_ok {W0 : World} {g : Nat} {w : World} {s : List UInt8} {ps : List PNode} (h : RS W0 g w s ps) (kd sg : Int) (hf : ps.length < 14) :
    Calls Try.prog 28 #[.pointer (some ⟨g, 0, none⟩), I kd, I sg] w fun e w' => e = .returned (I ps.length) ∧ RS W0 g w' s (ps ++ [⟨kd, sg⟩]) := by
  obtain ⟨v, c1, ho⟩ := h.c1
  obtain ⟨A, c, rfl, -, -, -⟩ := own_slice ho
  have hlt := h.lt
  obtain ⟨i0, hi, hz0, hz1, hz2⟩ := info_parts tab_node
  have f1 := h.f1
  have C1 := Lib.hid c1
  have HO := Lib.hid ho
  have H := Lib.hid h; clear h ho
  go_enter Try.func28, Try.ntmps28
  go_wp2_with (at_builtin; refine wpList_append_own_at _ rfl (.tmp 19) (.tmp 23) 22 rfl (g + 1) 37 i0 (.agg #[.int .i64 0, .int .i64 0]) 2 16 Try.underlying22 hi hz0 hz1 hz2 rfl (by decide) _ ps.length (flatN ps) rfl (HO.out.alloc _) ⟨w.heap.size, 0, none⟩ 1 1 [I kd, I sg] rfl rfl (fun j u hu => by rw [add_zero, World.cell?_alloc_new]; simpa using hu) (by simp [Value.oneCell']) (by unfold maxLen; omega) (by omega) (by simp; omega) ?_; intro v' w1 hown' hgrow hnil hloc; have e1 := hgrow.cell (a := ⟨g, 1, none⟩) (Keeps.alloc _ _ _ _ C1.out) (fun e => by have := (HO.out.lt g e.symm).1; omega); have e2 := hgrow.frozen_far ⟨g, 1, none⟩ (by simp; omega) (fun e => by have := (HO.out.lt g e.symm).1; omega); obtain ⟨A', c', rfl, -, -, -⟩ := own_slice hown')
  go_ret
  exact ⟨rfl, H.out.put (x := ⟨kd, sg⟩) C1.out HO.out hgrow hown'⟩
theorem set_iter (w : World) (L : ByteArray) (p g j : Nat) (v : Value) (h : g < w.heap.size) : (w.iter L p).setCell ⟨g, j, none⟩ v = (w.setCell ⟨g, j, none⟩ v).iter L p := by
  have e : w.heap.size ≠ g := by omega
  unfold World.iter
  first | exact World.setCell_alloc_past _ _ _ _ h | exact World.setCell_alloc_past _ _ _ _ _ h
theorem signP_isP (f : UInt8) (s : List UInt8) : signP f s = if isP [f] s then some (0, restP [f] s) else if isP [f + 1] s then some (1, restP [f + 1] s) else if isP [f + 2] s then some (2, restP [f + 2] s) else none := by
  cases s with
  | nil => simp [signP, isP, cutP]
  | cons c s =>
    have h : ∀ d : UInt8, isP [d] (c :: s) = decide (c = d) := fun d => by
      unfold isP; simp only [cutP]
      by_cases e : d = c
      · subst e; simp
      · rw [if_neg e]; simp; exact fun x => e x.symm
    have r : ∀ d : UInt8, c = d → restP [d] (c :: s) = s := fun d e => by subst e; simp [restP, cutP]
    simp only [signP, h]
    by_cases e0 : c = f
    · simp [e0, r f e0]; rw [← e0]; simp [restP, cutP]
    by_cases e1 : c = f + 1
    · simp only [e0, e1, if_false, if_true, decide_true, decide_false]; rw [← e1] at *; simp [e0, r c rfl]
    by_cases e2 : c = f + 2
    · simp only [e0, e1, e2, if_false, if_true, decide_true, decide_false]; rw [← e2] at *; simp [e0, e1, r c rfl]
    · simp [e0, e1, e2]
theorem sign65_any {W0 : World} {g : Nat} {w : World} {s : List UInt8} {ps : List PNode} (h : RS W0 g w s ps) :
    Calls Try.prog 29 #[.pointer (some ⟨g, 0, none⟩), S [65, 66, 67]] w fun e w' => match signP 65 s with | some q => e = .returned (I q.1) ∧ RS W0 g w' q.2 ps | none => e = .panicked [broken] ∧ Ext W0 w' := by
  have hlt := h.lt
  rw [signP_isP, show (65 : UInt8) + 1 = 66 from rfl, show (65 : UInt8) + 2 = 67 from rfl]
  cases hi0 : isP [65] s
  rotate_left
  ·
    simp only [hi0, if_true, if_false, Bool.false_eq_true]
    have H := Lib.hid h; clear h
    have HI0 := Lib.hid hi0
    clear hi0
    go_enter Try.func29, Try.ntmps29
    go_wp2_with fail
    refine wp_loop_rounds 4 ?_
    rw [rounds_succ]
    have n0 : ∀ t, (Instr.next (.pointer (some ⟨w.heap.size, 0, none⟩)) true t).run Try.prog (w.iter ⟨#[65, 66, 67]⟩ 0) = .ok (.tuple #[.bool true, .int .i64 0, .int .i32 65]) (w.iter ⟨#[65, 66, 67]⟩ 1) := fun t => run_next_ascii (P := Try.prog) w ⟨#[65, 66, 67]⟩ 0 t (by decide) (by decide)
    go_wp2_with fail
    refine (may_any (H.out.alloc (.stringIter ⟨#[65, 66, 67]⟩ 1)) [65] (by decide)).mono ?_; rintro e w' ⟨rfl, rfl⟩; rw [HI0.out]
    go_wp2
    go_ret
    exact ⟨rfl, (H.out.rest _ (by have := rest_len [65] s; have := H.out.short; omega)).alloc _⟩
  cases hi1 : isP [66] s
  rotate_left
  ·
    simp only [hi0, hi1, if_true, if_false, Bool.false_eq_true]
    have H := Lib.hid h; clear h
    have HI0 := Lib.hid hi0
    have HI1 := Lib.hid hi1
    have HR0 := Lib.hid (restP_no hi0)
    clear hi0 hi1
    go_enter Try.func29, Try.ntmps29
    go_wp2_with fail
    refine wp_loop_rounds 4 ?_
    rw [rounds_succ]
    have n0 : ∀ t, (Instr.next (.pointer (some ⟨w.heap.size, 0, none⟩)) true t).run Try.prog (w.iter ⟨#[65, 66, 67]⟩ 0) = .ok (.tuple #[.bool true, .int .i64 0, .int .i32 65]) (w.iter ⟨#[65, 66, 67]⟩ 1) := fun t => run_next_ascii (P := Try.prog) w ⟨#[65, 66, 67]⟩ 0 t (by decide) (by decide)
    go_wp2_with fail
    refine (may_any (H.out.alloc (.stringIter ⟨#[65, 66, 67]⟩ 1)) [65] (by decide)).mono ?_; rintro e w' ⟨rfl, rfl⟩; rw [HI0.out]
    rw [HR0.out, show (w.alloc (.stringIter ⟨#[65, 66, 67]⟩ 1)).setCell ⟨g, 0, none⟩ (S s) = (w.setCell ⟨g, 0, none⟩ (S s)).iter ⟨#[65, 66, 67]⟩ 1 from set_iter _ _ _ _ _ _ hlt]
    obtain ⟨w1, hw1⟩ : ∃ q, q = w.setCell ⟨g, 0, none⟩ (S s) := ⟨_, rfl⟩
    have HH1 : Hid (RS W0 g w1 s ps) := by rw [hw1]; exact H.out.rest s H.out.short
    have hz1 : w1.heap.size = w.heap.size := by rw [hw1]; simp
    have hlt1 : g < w1.heap.size := HH1.out.lt
    rw [← hw1]; clear hw1 n0
    go_wp2_with fail
    rw [rounds_succ]
    have n1 : ∀ t, (Instr.next (.pointer (some ⟨w1.heap.size, 0, none⟩)) true t).run Try.prog (w1.iter ⟨#[65, 66, 67]⟩ 1) = .ok (.tuple #[.bool true, .int .i64 1, .int .i32 66]) (w1.iter ⟨#[65, 66, 67]⟩ 2) := fun t => run_next_ascii (P := Try.prog) w1 ⟨#[65, 66, 67]⟩ 1 t (by decide) (by decide)
    rw [hz1] at n1
    go_wp2_with fail
    refine (may_any (HH1.out.alloc (.stringIter ⟨#[65, 66, 67]⟩ 2)) [66] (by decide)).mono ?_; rintro e w' ⟨rfl, rfl⟩; rw [HI1.out]
    go_wp2
    go_ret
    exact ⟨rfl, (HH1.out.rest _ (by have := rest_len [66] s; have := H.out.short; omega)).alloc _⟩
  cases hi2 : isP [67] s
  rotate_left
  ·
    simp only [hi0, hi1, hi2, if_true, if_false, Bool.false_eq_true]
    have H := Lib.hid h; clear h
    have HI0 := Lib.hid hi0
    have HI1 := Lib.hid hi1
    have HI2 := Lib.hid hi2
    have HR0 := Lib.hid (restP_no hi0)
    have HR1 := Lib.hid (restP_no hi1)
    clear hi0 hi1 hi2
    go_enter Try.func29, Try.ntmps29
    go_wp2_with fail
    refine wp_loop_rounds 4 ?_
    rw [rounds_succ]
    have n0 : ∀ t, (Instr.next (.pointer (some ⟨w.heap.size, 0, none⟩)) true t).run Try.prog (w.iter ⟨#[65, 66, 67]⟩ 0) = .ok (.tuple #[.bool true, .int .i64 0, .int .i32 65]) (w.iter ⟨#[65, 66, 67]⟩ 1) := fun t => run_next_ascii (P := Try.prog) w ⟨#[65, 66, 67]⟩ 0 t (by decide) (by decide)
    go_wp2_with fail
    refine (may_any (H.out.alloc (.stringIter ⟨#[65, 66, 67]⟩ 1)) [65] (by decide)).mono ?_; rintro e w' ⟨rfl, rfl⟩; rw [HI0.out]
    rw [HR0.out, show (w.alloc (.stringIter ⟨#[65, 66, 67]⟩ 1)).setCell ⟨g, 0, none⟩ (S s) = (w.setCell ⟨g, 0, none⟩ (S s)).iter ⟨#[65, 66, 67]⟩ 1 from set_iter _ _ _ _ _ _ hlt]
    obtain ⟨w1, hw1⟩ : ∃ q, q = w.setCell ⟨g, 0, none⟩ (S s) := ⟨_, rfl⟩
    have HH1 : Hid (RS W0 g w1 s ps) := by rw [hw1]; exact H.out.rest s H.out.short
    have hz1 : w1.heap.size = w.heap.size := by rw [hw1]; simp
    have hlt1 : g < w1.heap.size := HH1.out.lt
    rw [← hw1]; clear hw1 n0
    go_wp2_with fail
    rw [rounds_succ]
    have n1 : ∀ t, (Instr.next (.pointer (some ⟨w1.heap.size, 0, none⟩)) true t).run Try.prog (w1.iter ⟨#[65, 66, 67]⟩ 1) = .ok (.tuple #[.bool true, .int .i64 1, .int .i32 66]) (w1.iter ⟨#[65, 66, 67]⟩ 2) := fun t => run_next_ascii (P := Try.prog) w1 ⟨#[65, 66, 67]⟩ 1 t (by decide) (by decide)
    rw [hz1] at n1
    go_wp2_with fail
    refine (may_any (HH1.out.alloc (.stringIter ⟨#[65, 66, 67]⟩ 2)) [66] (by decide)).mono ?_; rintro e w' ⟨rfl, rfl⟩; rw [HI1.out]
    rw [HR1.out, show (w1.alloc (.stringIter ⟨#[65, 66, 67]⟩ 2)).setCell ⟨g, 0, none⟩ (S s) = (w1.setCell ⟨g, 0, none⟩ (S s)).iter ⟨#[65, 66, 67]⟩ 2 from set_iter _ _ _ _ _ _ hlt1]
    obtain ⟨w2, hw2⟩ : ∃ q, q = w1.setCell ⟨g, 0, none⟩ (S s) := ⟨_, rfl⟩
    have HH2 : Hid (RS W0 g w2 s ps) := by rw [hw2]; exact HH1.out.rest s H.out.short
    have hz2 : w2.heap.size = w.heap.size := by rw [hw2]; simp [hz1]
    have hlt2 : g < w2.heap.size := HH2.out.lt
    rw [← hw2]; clear hw2 n1
    go_wp2_with fail
    rw [rounds_succ]
    have n2 : ∀ t, (Instr.next (.pointer (some ⟨w2.heap.size, 0, none⟩)) true t).run Try.prog (w2.iter ⟨#[65, 66, 67]⟩ 2) = .ok (.tuple #[.bool true, .int .i64 2, .int .i32 67]) (w2.iter ⟨#[65, 66, 67]⟩ 3) := fun t => run_next_ascii (P := Try.prog) w2 ⟨#[65, 66, 67]⟩ 2 t (by decide) (by decide)
    rw [hz2] at n2
    go_wp2_with fail
    refine (may_any (HH2.out.alloc (.stringIter ⟨#[65, 66, 67]⟩ 3)) [67] (by decide)).mono ?_; rintro e w' ⟨rfl, rfl⟩; rw [HI2.out]
    go_wp2
    go_ret
    exact ⟨rfl, (HH2.out.rest _ (by have := rest_len [67] s; have := H.out.short; omega)).alloc _⟩
  ·
    simp only [hi0, hi1, hi2, if_true, if_false, Bool.false_eq_true]
    have H := Lib.hid h; clear h
    have HI0 := Lib.hid hi0
    have HI1 := Lib.hid hi1
    have HI2 := Lib.hid hi2
    have HR0 := Lib.hid (restP_no hi0)
    have HR1 := Lib.hid (restP_no hi1)
    have HR2 := Lib.hid (restP_no hi2)
    clear hi0 hi1 hi2
    go_enter Try.func29, Try.ntmps29
    go_wp2_with fail
    refine wp_loop_rounds 4 ?_
    rw [rounds_succ]
    have n0 : ∀ t, (Instr.next (.pointer (some ⟨w.heap.size, 0, none⟩)) true t).run Try.prog (w.iter ⟨#[65, 66, 67]⟩ 0) = .ok (.tuple #[.bool true, .int .i64 0, .int .i32 65]) (w.iter ⟨#[65, 66, 67]⟩ 1) := fun t => run_next_ascii (P := Try.prog) w ⟨#[65, 66, 67]⟩ 0 t (by decide) (by decide)
    go_wp2_with fail
    refine (may_any (H.out.alloc (.stringIter ⟨#[65, 66, 67]⟩ 1)) [65] (by decide)).mono ?_; rintro e w' ⟨rfl, rfl⟩; rw [HI0.out]
    rw [HR0.out, show (w.alloc (.stringIter ⟨#[65, 66, 67]⟩ 1)).setCell ⟨g, 0, none⟩ (S s) = (w.setCell ⟨g, 0, none⟩ (S s)).iter ⟨#[65, 66, 67]⟩ 1 from set_iter _ _ _ _ _ _ hlt]
    obtain ⟨w1, hw1⟩ : ∃ q, q = w.setCell ⟨g, 0, none⟩ (S s) := ⟨_, rfl⟩
    have HH1 : Hid (RS W0 g w1 s ps) := by rw [hw1]; exact H.out.rest s H.out.short
    have hz1 : w1.heap.size = w.heap.size := by rw [hw1]; simp
    have hlt1 : g < w1.heap.size := HH1.out.lt
    rw [← hw1]; clear hw1 n0
    go_wp2_with fail
    rw [rounds_succ]
    have n1 : ∀ t, (Instr.next (.pointer (some ⟨w1.heap.size, 0, none⟩)) true t).run Try.prog (w1.iter ⟨#[65, 66, 67]⟩ 1) = .ok (.tuple #[.bool true, .int .i64 1, .int .i32 66]) (w1.iter ⟨#[65, 66, 67]⟩ 2) := fun t => run_next_ascii (P := Try.prog) w1 ⟨#[65, 66, 67]⟩ 1 t (by decide) (by decide)
    rw [hz1] at n1
    go_wp2_with fail
    refine (may_any (HH1.out.alloc (.stringIter ⟨#[65, 66, 67]⟩ 2)) [66] (by decide)).mono ?_; rintro e w' ⟨rfl, rfl⟩; rw [HI1.out]
    rw [HR1.out, show (w1.alloc (.stringIter ⟨#[65, 66, 67]⟩ 2)).setCell ⟨g, 0, none⟩ (S s) = (w1.setCell ⟨g, 0, none⟩ (S s)).iter ⟨#[65, 66, 67]⟩ 2 from set_iter _ _ _ _ _ _ hlt1]
    obtain ⟨w2, hw2⟩ : ∃ q, q = w1.setCell ⟨g, 0, none⟩ (S s) := ⟨_, rfl⟩
    have HH2 : Hid (RS W0 g w2 s ps) := by rw [hw2]; exact HH1.out.rest s H.out.short
    have hz2 : w2.heap.size = w.heap.size := by rw [hw2]; simp [hz1]
    have hlt2 : g < w2.heap.size := HH2.out.lt
    rw [← hw2]; clear hw2 n1
    go_wp2_with fail
    rw [rounds_succ]
    have n2 : ∀ t, (Instr.next (.pointer (some ⟨w2.heap.size, 0, none⟩)) true t).run Try.prog (w2.iter ⟨#[65, 66, 67]⟩ 2) = .ok (.tuple #[.bool true, .int .i64 2, .int .i32 67]) (w2.iter ⟨#[65, 66, 67]⟩ 3) := fun t => run_next_ascii (P := Try.prog) w2 ⟨#[65, 66, 67]⟩ 2 t (by decide) (by decide)
    rw [hz2] at n2
    go_wp2_with fail
    refine (may_any (HH2.out.alloc (.stringIter ⟨#[65, 66, 67]⟩ 3)) [67] (by decide)).mono ?_; rintro e w' ⟨rfl, rfl⟩; rw [HI2.out]
    rw [HR2.out, show (w2.alloc (.stringIter ⟨#[65, 66, 67]⟩ 3)).setCell ⟨g, 0, none⟩ (S s) = (w2.setCell ⟨g, 0, none⟩ (S s)).iter ⟨#[65, 66, 67]⟩ 3 from set_iter _ _ _ _ _ _ hlt2]
    obtain ⟨w3, hw3⟩ : ∃ q, q = w2.setCell ⟨g, 0, none⟩ (S s) := ⟨_, rfl⟩
    have HH3 : Hid (RS W0 g w3 s ps) := by rw [hw3]; exact HH2.out.rest s H.out.short
    have hz3 : w3.heap.size = w.heap.size := by rw [hw3]; simp [hz2]
    have hlt3 : g < w3.heap.size := HH3.out.lt
    rw [← hw3]; clear hw3 n2
    have n3 : ∀ t, (Instr.next (.pointer (some ⟨w3.heap.size, 0, none⟩)) true t).run Try.prog (w3.iter ⟨#[65, 66, 67]⟩ 3) = .ok (.tuple #[.bool false]) (w3.iter ⟨#[65, 66, 67]⟩ 3) := fun t => run_next_end (P := Try.prog) w3 ⟨#[65, 66, 67]⟩ 3 t (by decide)
    rw [hz3] at n3
    go_wp2_with fail
    rw [rounds_succ]
    go_wp2
    exact ⟨rfl, rfl, (HH3.out.alloc _).ext⟩
theorem sign120_any {W0 : World} {g : Nat} {w : World} {s : List UInt8} {ps : List PNode} (h : RS W0 g w s ps) :
    Calls Try.prog 29 #[.pointer (some ⟨g, 0, none⟩), S [120, 121, 122]] w fun e w' => match signP 120 s with | some q => e = .returned (I q.1) ∧ RS W0 g w' q.2 ps | none => e = .panicked [broken] ∧ Ext W0 w' := by
  have hlt := h.lt
  rw [signP_isP, show (120 : UInt8) + 1 = 121 from rfl, show (120 : UInt8) + 2 = 122 from rfl]
  cases hi0 : isP [120] s
  rotate_left
  ·
    simp only [hi0, if_true, if_false, Bool.false_eq_true]
    have H := Lib.hid h; clear h
    have HI0 := Lib.hid hi0
    clear hi0
    go_enter Try.func29, Try.ntmps29
    go_wp2_with fail
    refine wp_loop_rounds 4 ?_
    rw [rounds_succ]
    have n0 : ∀ t, (Instr.next (.pointer (some ⟨w.heap.size, 0, none⟩)) true t).run Try.prog (w.iter ⟨#[120, 121, 122]⟩ 0) = .ok (.tuple #[.bool true, .int .i64 0, .int .i32 120]) (w.iter ⟨#[120, 121, 122]⟩ 1) := fun t => run_next_ascii (P := Try.prog) w ⟨#[120, 121, 122]⟩ 0 t (by decide) (by decide)
    go_wp2_with fail
    refine (may_any (H.out.alloc (.stringIter ⟨#[120, 121, 122]⟩ 1)) [120] (by decide)).mono ?_; rintro e w' ⟨rfl, rfl⟩; rw [HI0.out]
    go_wp2
    go_ret
    exact ⟨rfl, (H.out.rest _ (by have := rest_len [120] s; have := H.out.short; omega)).alloc _⟩
  cases hi1 : isP [121] s
  rotate_left
  ·
    simp only [hi0, hi1, if_true, if_false, Bool.false_eq_true]
    have H := Lib.hid h; clear h
    have HI0 := Lib.hid hi0
    have HI1 := Lib.hid hi1
    have HR0 := Lib.hid (restP_no hi0)
    clear hi0 hi1
    go_enter Try.func29, Try.ntmps29
    go_wp2_with fail
    refine wp_loop_rounds 4 ?_
    rw [rounds_succ]
    have n0 : ∀ t, (Instr.next (.pointer (some ⟨w.heap.size, 0, none⟩)) true t).run Try.prog (w.iter ⟨#[120, 121, 122]⟩ 0) = .ok (.tuple #[.bool true, .int .i64 0, .int .i32 120]) (w.iter ⟨#[120, 121, 122]⟩ 1) := fun t => run_next_ascii (P := Try.prog) w ⟨#[120, 121, 122]⟩ 0 t (by decide) (by decide)
    go_wp2_with fail
    refine (may_any (H.out.alloc (.stringIter ⟨#[120, 121, 122]⟩ 1)) [120] (by decide)).mono ?_; rintro e w' ⟨rfl, rfl⟩; rw [HI0.out]
    rw [HR0.out, show (w.alloc (.stringIter ⟨#[120, 121, 122]⟩ 1)).setCell ⟨g, 0, none⟩ (S s) = (w.setCell ⟨g, 0, none⟩ (S s)).iter ⟨#[120, 121, 122]⟩ 1 from set_iter _ _ _ _ _ _ hlt]
    obtain ⟨w1, hw1⟩ : ∃ q, q = w.setCell ⟨g, 0, none⟩ (S s) := ⟨_, rfl⟩
    have HH1 : Hid (RS W0 g w1 s ps) := by rw [hw1]; exact H.out.rest s H.out.short
    have hz1 : w1.heap.size = w.heap.size := by rw [hw1]; simp
    have hlt1 : g < w1.heap.size := HH1.out.lt
    rw [← hw1]; clear hw1 n0
    go_wp2_with fail
    rw [rounds_succ]
    have n1 : ∀ t, (Instr.next (.pointer (some ⟨w1.heap.size, 0, none⟩)) true t).run Try.prog (w1.iter ⟨#[120, 121, 122]⟩ 1) = .ok (.tuple #[.bool true, .int .i64 1, .int .i32 121]) (w1.iter ⟨#[120, 121, 122]⟩ 2) := fun t => run_next_ascii (P := Try.prog) w1 ⟨#[120, 121, 122]⟩ 1 t (by decide) (by decide)
    rw [hz1] at n1
    go_wp2_with fail
    refine (may_any (HH1.out.alloc (.stringIter ⟨#[120, 121, 122]⟩ 2)) [121] (by decide)).mono ?_; rintro e w' ⟨rfl, rfl⟩; rw [HI1.out]
    go_wp2
    go_ret
    exact ⟨rfl, (HH1.out.rest _ (by have := rest_len [121] s; have := H.out.short; omega)).alloc _⟩
  cases hi2 : isP [122] s
  rotate_left
  ·
    simp only [hi0, hi1, hi2, if_true, if_false, Bool.false_eq_true]
    have H := Lib.hid h; clear h
    have HI0 := Lib.hid hi0
    have HI1 := Lib.hid hi1
    have HI2 := Lib.hid hi2
    have HR0 := Lib.hid (restP_no hi0)
    have HR1 := Lib.hid (restP_no hi1)
    clear hi0 hi1 hi2
    go_enter Try.func29, Try.ntmps29
    go_wp2_with fail
    refine wp_loop_rounds 4 ?_
    rw [rounds_succ]
    have n0 : ∀ t, (Instr.next (.pointer (some ⟨w.heap.size, 0, none⟩)) true t).run Try.prog (w.iter ⟨#[120, 121, 122]⟩ 0) = .ok (.tuple #[.bool true, .int .i64 0, .int .i32 120]) (w.iter ⟨#[120, 121, 122]⟩ 1) := fun t => run_next_ascii (P := Try.prog) w ⟨#[120, 121, 122]⟩ 0 t (by decide) (by decide)
    go_wp2_with fail
    refine (may_any (H.out.alloc (.stringIter ⟨#[120, 121, 122]⟩ 1)) [120] (by decide)).mono ?_; rintro e w' ⟨rfl, rfl⟩; rw [HI0.out]
    rw [HR0.out, show (w.alloc (.stringIter ⟨#[120, 121, 122]⟩ 1)).setCell ⟨g, 0, none⟩ (S s) = (w.setCell ⟨g, 0, none⟩ (S s)).iter ⟨#[120, 121, 122]⟩ 1 from set_iter _ _ _ _ _ _ hlt]
    obtain ⟨w1, hw1⟩ : ∃ q, q = w.setCell ⟨g, 0, none⟩ (S s) := ⟨_, rfl⟩
    have HH1 : Hid (RS W0 g w1 s ps) := by rw [hw1]; exact H.out.rest s H.out.short
    have hz1 : w1.heap.size = w.heap.size := by rw [hw1]; simp
    have hlt1 : g < w1.heap.size := HH1.out.lt
    rw [← hw1]; clear hw1 n0
    go_wp2_with fail
    rw [rounds_succ]
    have n1 : ∀ t, (Instr.next (.pointer (some ⟨w1.heap.size, 0, none⟩)) true t).run Try.prog (w1.iter ⟨#[120, 121, 122]⟩ 1) = .ok (.tuple #[.bool true, .int .i64 1, .int .i32 121]) (w1.iter ⟨#[120, 121, 122]⟩ 2) := fun t => run_next_ascii (P := Try.prog) w1 ⟨#[120, 121, 122]⟩ 1 t (by decide) (by decide)
    rw [hz1] at n1
    go_wp2_with fail
    refine (may_any (HH1.out.alloc (.stringIter ⟨#[120, 121, 122]⟩ 2)) [121] (by decide)).mono ?_; rintro e w' ⟨rfl, rfl⟩; rw [HI1.out]
    rw [HR1.out, show (w1.alloc (.stringIter ⟨#[120, 121, 122]⟩ 2)).setCell ⟨g, 0, none⟩ (S s) = (w1.setCell ⟨g, 0, none⟩ (S s)).iter ⟨#[120, 121, 122]⟩ 2 from set_iter _ _ _ _ _ _ hlt1]
    obtain ⟨w2, hw2⟩ : ∃ q, q = w1.setCell ⟨g, 0, none⟩ (S s) := ⟨_, rfl⟩
    have HH2 : Hid (RS W0 g w2 s ps) := by rw [hw2]; exact HH1.out.rest s H.out.short
    have hz2 : w2.heap.size = w.heap.size := by rw [hw2]; simp [hz1]
    have hlt2 : g < w2.heap.size := HH2.out.lt
    rw [← hw2]; clear hw2 n1
    go_wp2_with fail
    rw [rounds_succ]
    have n2 : ∀ t, (Instr.next (.pointer (some ⟨w2.heap.size, 0, none⟩)) true t).run Try.prog (w2.iter ⟨#[120, 121, 122]⟩ 2) = .ok (.tuple #[.bool true, .int .i64 2, .int .i32 122]) (w2.iter ⟨#[120, 121, 122]⟩ 3) := fun t => run_next_ascii (P := Try.prog) w2 ⟨#[120, 121, 122]⟩ 2 t (by decide) (by decide)
    rw [hz2] at n2
    go_wp2_with fail
    refine (may_any (HH2.out.alloc (.stringIter ⟨#[120, 121, 122]⟩ 3)) [122] (by decide)).mono ?_; rintro e w' ⟨rfl, rfl⟩; rw [HI2.out]
    go_wp2
    go_ret
    exact ⟨rfl, (HH2.out.rest _ (by have := rest_len [122] s; have := H.out.short; omega)).alloc _⟩
  ·
    simp only [hi0, hi1, hi2, if_true, if_false, Bool.false_eq_true]
    have H := Lib.hid h; clear h
    have HI0 := Lib.hid hi0
    have HI1 := Lib.hid hi1
    have HI2 := Lib.hid hi2
    have HR0 := Lib.hid (restP_no hi0)
    have HR1 := Lib.hid (restP_no hi1)
    have HR2 := Lib.hid (restP_no hi2)
    clear hi0 hi1 hi2
    go_enter Try.func29, Try.ntmps29
    go_wp2_with fail
    refine wp_loop_rounds 4 ?_
    rw [rounds_succ]
    have n0 : ∀ t, (Instr.next (.pointer (some ⟨w.heap.size, 0, none⟩)) true t).run Try.prog (w.iter ⟨#[120, 121, 122]⟩ 0) = .ok (.tuple #[.bool true, .int .i64 0, .int .i32 120]) (w.iter ⟨#[120, 121, 122]⟩ 1) := fun t => run_next_ascii (P := Try.prog) w ⟨#[120, 121, 122]⟩ 0 t (by decide) (by decide)
    go_wp2_with fail
    refine (may_any (H.out.alloc (.stringIter ⟨#[120, 121, 122]⟩ 1)) [120] (by decide)).mono ?_; rintro e w' ⟨rfl, rfl⟩; rw [HI0.out]
    rw [HR0.out, show (w.alloc (.stringIter ⟨#[120, 121, 122]⟩ 1)).setCell ⟨g, 0, none⟩ (S s) = (w.setCell ⟨g, 0, none⟩ (S s)).iter ⟨#[120, 121, 122]⟩ 1 from set_iter _ _ _ _ _ _ hlt]
    obtain ⟨w1, hw1⟩ : ∃ q, q = w.setCell ⟨g, 0, none⟩ (S s) := ⟨_, rfl⟩
    have HH1 : Hid (RS W0 g w1 s ps) := by rw [hw1]; exact H.out.rest s H.out.short
    have hz1 : w1.heap.size = w.heap.size := by rw [hw1]; simp
    have hlt1 : g < w1.heap.size := HH1.out.lt
    rw [← hw1]; clear hw1 n0
    go_wp2_with fail
    rw [rounds_succ]
    have n1 : ∀ t, (Instr.next (.pointer (some ⟨w1.heap.size, 0, none⟩)) true t).run Try.prog (w1.iter ⟨#[120, 121, 122]⟩ 1) = .ok (.tuple #[.bool true, .int .i64 1, .int .i32 121]) (w1.iter ⟨#[120, 121, 122]⟩ 2) := fun t => run_next_ascii (P := Try.prog) w1 ⟨#[120, 121, 122]⟩ 1 t (by decide) (by decide)
    rw [hz1] at n1
    go_wp2_with fail
    refine (may_any (HH1.out.alloc (.stringIter ⟨#[120, 121, 122]⟩ 2)) [121] (by decide)).mono ?_; rintro e w' ⟨rfl, rfl⟩; rw [HI1.out]
    rw [HR1.out, show (w1.alloc (.stringIter ⟨#[120, 121, 122]⟩ 2)).setCell ⟨g, 0, none⟩ (S s) = (w1.setCell ⟨g, 0, none⟩ (S s)).iter ⟨#[120, 121, 122]⟩ 2 from set_iter _ _ _ _ _ _ hlt1]
    obtain ⟨w2, hw2⟩ : ∃ q, q = w1.setCell ⟨g, 0, none⟩ (S s) := ⟨_, rfl⟩
    have HH2 : Hid (RS W0 g w2 s ps) := by rw [hw2]; exact HH1.out.rest s H.out.short
    have hz2 : w2.heap.size = w.heap.size := by rw [hw2]; simp [hz1]
    have hlt2 : g < w2.heap.size := HH2.out.lt
    rw [← hw2]; clear hw2 n1
    go_wp2_with fail
    rw [rounds_succ]
    have n2 : ∀ t, (Instr.next (.pointer (some ⟨w2.heap.size, 0, none⟩)) true t).run Try.prog (w2.iter ⟨#[120, 121, 122]⟩ 2) = .ok (.tuple #[.bool true, .int .i64 2, .int .i32 122]) (w2.iter ⟨#[120, 121, 122]⟩ 3) := fun t => run_next_ascii (P := Try.prog) w2 ⟨#[120, 121, 122]⟩ 2 t (by decide) (by decide)
    rw [hz2] at n2
    go_wp2_with fail
    refine (may_any (HH2.out.alloc (.stringIter ⟨#[120, 121, 122]⟩ 3)) [122] (by decide)).mono ?_; rintro e w' ⟨rfl, rfl⟩; rw [HI2.out]
    rw [HR2.out, show (w2.alloc (.stringIter ⟨#[120, 121, 122]⟩ 3)).setCell ⟨g, 0, none⟩ (S s) = (w2.setCell ⟨g, 0, none⟩ (S s)).iter ⟨#[120, 121, 122]⟩ 3 from set_iter _ _ _ _ _ _ hlt2]
    obtain ⟨w3, hw3⟩ : ∃ q, q = w2.setCell ⟨g, 0, none⟩ (S s) := ⟨_, rfl⟩
    have HH3 : Hid (RS W0 g w3 s ps) := by rw [hw3]; exact HH2.out.rest s H.out.short
    have hz3 : w3.heap.size = w.heap.size := by rw [hw3]; simp [hz2]
    have hlt3 : g < w3.heap.size := HH3.out.lt
    rw [← hw3]; clear hw3 n2
    have n3 : ∀ t, (Instr.next (.pointer (some ⟨w3.heap.size, 0, none⟩)) true t).run Try.prog (w3.iter ⟨#[120, 121, 122]⟩ 3) = .ok (.tuple #[.bool false]) (w3.iter ⟨#[120, 121, 122]⟩ 3) := fun t => run_next_end (P := Try.prog) w3 ⟨#[120, 121, 122]⟩ 3 t (by decide)
    rw [hz3] at n3
    go_wp2_with fail
    rw [rounds_succ]
    go_wp2
    exact ⟨rfl, rfl, (HH3.out.alloc _).ext⟩
end Go.Proofs.Ytncakjhianmekaa
