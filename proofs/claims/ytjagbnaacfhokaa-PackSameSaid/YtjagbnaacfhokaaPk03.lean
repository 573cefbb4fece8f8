/- SameRows walked. -/
import Derived.Test.YtjagbnaacfhokaaPk02
import Derived.Test.YtjagbnaacfhokaaPk01
import Derived.RegionTactic
import Derived.Deep.RegionHeld3
namespace Go.Proofs.Ytjagbnaacfhokaa
set_option linter.unusedVariables false
set_option linter.unusedSimpArgs false
open Go.RowKit

set_option maxHeartbeats 2000000 in
theorem sameRows_any (A B : Option Addr) (n m c d : Nat) (xs ys : List (List Int)) (w : World) (h : SlRows w A n xs) (h' : SlRows w B m ys) (hn : n ≤ maxLen) (hm : m ≤ maxLen) :
    Calls Try.prog 51 #[.slice A n c, .slice B m d] w fun e w' => e = .returned (.bool (decide (xs = ys))) ∧ Ext w w' := by
  generalize hM : decide (xs = ys) = M
  have hxl := h.1; have hyl := h'.1
  have H := Lib.hid h; have H' := Lib.hid h'; have HM := Lib.hid hM
  unfold maxLen at hn hm
  clear h h' hM
  by_cases hnm : n = m
  · subst hnm
    go_enter Try.func51, Try.ntmps51
    go_wp2_with fail
    go_loopw [5] (fun j wr => ∃ k : Nat, k ≤ n ∧ j = .int .i64 k ∧ Ext w wr ∧ decide (xs.drop k = ys.drop k) = M) (fun j _ => n - (intOf j).toNat)
    case atStart => exact ⟨0, Nat.zero_le _, rfl, Ext.refl _, by simpa using HM.out⟩
    case round =>
      obtain ⟨k, hk, rfl, hext, hR⟩ := hrel
      by_cases hlt : k < n
      · have hx : xs[k]? = some xs[k] := List.getElem?_eq_getElem (by omega)
        have hy : ys[k]? = some ys[k] := List.getElem?_eq_getElem (by omega)
        rw [List.drop_eq_getElem_cons (show k < xs.length by omega), List.drop_eq_getElem_cons (show k < ys.length by omega)] at hR
        generalize xs[k] = x at hx hR
        generalize ys[k] = y at hy hR
        obtain ⟨b1, o1, A1', c1, rfl, hc1, hs1, l1, m1⟩ := H.out.2 k x hx
        obtain ⟨b2, o2, A2, c2, rfl, hc2, hs2, l2, m2⟩ := H'.out.2 k y hy
        have C1 := Lib.hid (hext.keeps _ _ hc1); have C2 := Lib.hid (hext.keeps _ _ hc2); have S1 := Lib.hid (hs1.keep hext.keeps); have S2 := Lib.hid (hs2.keep hext.keeps)
        have L1 := Lib.hid (Nat.le_trans l1 m1); have L2 := Lib.hid (Nat.le_trans l2 m2)
        have HR := Lib.hid hR; have HE := Lib.hid hext
        clear hc1 hc2 hs1 hs2 hR hext hx hy l1 l2 m1 m2
        by_cases hxy : x = y
        · subst hxy
          go_wp2_with fail
          refine wp_flow3 10 0 [isV (.slice (some ⟨b1, o1, none⟩) n c), isV (.int .i64 k), isV (.pointer (some ⟨b1, o1 + k, none⟩)), isV (.slice A1' x.length c1), isV (.slice (some ⟨b2, o2, none⟩) n d), isV (.int .i64 k), isV (.pointer (some ⟨b2, o2 + k, none⟩)), isV (.slice A2 x.length c2), isV (.bool true), isV (.bool false)] (by kernel_rfl) rfl rfl (by kernel_rfl) (by kernel_rfl) ⟨isV_mono, isV_mono, isV_mono, isV_mono, isV_mono, isV_mono, isV_mono, isV_mono, isV_mono, isV_mono, trivial⟩ ?each ?rest
          case each =>
            refine .cons ?_ (.cons ?_ (.cons ?_ (.cons ?_ (.cons ?_ (.cons ?_ (.cons ?_ (.cons ?_ (.cons ?_ (.cons ?_ (.nil))))))))))
            · intro fa fw hx hs hb
              have s0 : fa.tmps[(0 : Nat)]? = some (.slice (some ⟨b1, o1, none⟩) n c) := (hb 0 (by kernel_rfl)).trans (by rfl)
              refine .inl ⟨wanted_free rfl, fun K hK => ?_⟩
              clear hs hb hx
              go_simp
              exact hK _ _ rfl (Ext.refl _)
            · intro fa fw hx hs hb
              have s5 : fa.tmps[(5 : Nat)]? = some (.int .i64 k) := (hb 5 (by kernel_rfl)).trans (by rfl)
              refine .inl ⟨wanted_free rfl, fun K hK => ?_⟩
              clear hs hb hx
              go_simp
              exact hK _ _ rfl (Ext.refl _)
            · intro fa fw hx hs hb
              obtain ⟨_, s17, rfl⟩ := hs 0 17 (by kernel_rfl) (by kernel_rfl)
              obtain ⟨_, s18, rfl⟩ := hs 1 18 (by kernel_rfl) (by kernel_rfl)
              refine .inl ⟨wanted_free rfl, fun K hK => ?_⟩
              clear hs hb hx
              go_simp
              exact hK _ _ rfl (Ext.refl _)
            · intro fa fw hx hs hb
              obtain ⟨_, s19, rfl⟩ := hs 2 19 (by kernel_rfl) (by kernel_rfl)
              have c0 := hx.keeps _ _ C1.out
              refine .inl ⟨wanted_free rfl, fun K hK => ?_⟩
              clear hs hb hx
              go_simp
              exact hK _ _ rfl (Ext.refl _)
            · intro fa fw hx hs hb
              have s1 : fa.tmps[(1 : Nat)]? = some (.slice (some ⟨b2, o2, none⟩) n d) := (hb 1 (by kernel_rfl)).trans (by rfl)
              refine .inl ⟨wanted_free rfl, fun K hK => ?_⟩
              clear hs hb hx
              go_simp
              exact hK _ _ rfl (Ext.refl _)
            · intro fa fw hx hs hb
              have s5 : fa.tmps[(5 : Nat)]? = some (.int .i64 k) := (hb 5 (by kernel_rfl)).trans (by rfl)
              refine .inl ⟨wanted_free rfl, fun K hK => ?_⟩
              clear hs hb hx
              go_simp
              exact hK _ _ rfl (Ext.refl _)
            · intro fa fw hx hs hb
              obtain ⟨_, s21, rfl⟩ := hs 4 21 (by kernel_rfl) (by kernel_rfl)
              obtain ⟨_, s22, rfl⟩ := hs 5 22 (by kernel_rfl) (by kernel_rfl)
              refine .inl ⟨wanted_free rfl, fun K hK => ?_⟩
              clear hs hb hx
              go_simp
              exact hK _ _ rfl (Ext.refl _)
            · intro fa fw hx hs hb
              obtain ⟨_, s23, rfl⟩ := hs 6 23 (by kernel_rfl) (by kernel_rfl)
              have c0 := hx.keeps _ _ C2.out
              refine .inl ⟨wanted_free rfl, fun K hK => ?_⟩
              clear hs hb hx
              go_simp
              exact hK _ _ rfl (Ext.refl _)
            · intro fa fw hx hs hb
              obtain ⟨_, s20, rfl⟩ := hs 3 20 (by kernel_rfl) (by kernel_rfl)
              obtain ⟨_, s24, rfl⟩ := hs 7 24 (by kernel_rfl) (by kernel_rfl)
              refine .inl ⟨wanted_free rfl, fun K hK => ?_⟩
              clear hs hb
              go_simp
              refine (sameInts_any A1' A2 x.length x.length c1 c2 x x fw (S1.out.keep hx.keeps) (S2.out.keep hx.keeps) L1.out L2.out).mono ?_
              rintro e w' ⟨rfl, mm, rfl⟩; rw [decide_eq_true rfl]
              exact hK _ _ rfl ((Ext.refl _).drewN _)
            · intro fa fw hx hs hb
              obtain ⟨_, s25, rfl⟩ := hs 8 25 (by kernel_rfl) (by kernel_rfl)
              refine .inl ⟨wanted_free rfl, fun K hK => ?_⟩
              clear hs hb hx
              go_simp
              exact hK _ _ rfl (Ext.refl _)
          case rest =>
            intro w2 hxw2
            rintro _ rfl
            rintro _ rfl
            rintro _ rfl
            rintro _ rfl
            rintro _ rfl
            rintro _ rfl
            rintro _ rfl
            rintro _ rfl
            rintro _ rfl
            rintro _ rfl
            simp only [putAll, List.take, Act.put, List.setIfInBounds_toArray, List.set_cons_zero, List.set_cons_succ]
            refine wpAny_done (by kernel_rfl) ?_ _
            go_wp2
            go_roundw
            case rel => exact ⟨k + 1, by omega, by go_num, HE.out.trans hxw2, by have := HR.out; simpa using this⟩
            case measure => simp [intOf]; omega
        · have HXY := Lib.hid hxy; clear hxy
          go_wp2_with fail
          refine wp_flow3 10 0 [isV (.slice (some ⟨b1, o1, none⟩) n c), isV (.int .i64 k), isV (.pointer (some ⟨b1, o1 + k, none⟩)), isV (.slice A1' x.length c1), isV (.slice (some ⟨b2, o2, none⟩) n d), isV (.int .i64 k), isV (.pointer (some ⟨b2, o2 + k, none⟩)), isV (.slice A2 y.length c2), isV (.bool false), isV (.bool true)] (by kernel_rfl) rfl rfl (by kernel_rfl) (by kernel_rfl) ⟨isV_mono, isV_mono, isV_mono, isV_mono, isV_mono, isV_mono, isV_mono, isV_mono, isV_mono, isV_mono, trivial⟩ ?each ?rest
          case each =>
            refine .cons ?_ (.cons ?_ (.cons ?_ (.cons ?_ (.cons ?_ (.cons ?_ (.cons ?_ (.cons ?_ (.cons ?_ (.cons ?_ (.nil))))))))))
            · intro fa fw hx hs hb
              have s0 : fa.tmps[(0 : Nat)]? = some (.slice (some ⟨b1, o1, none⟩) n c) := (hb 0 (by kernel_rfl)).trans (by rfl)
              refine .inl ⟨wanted_free rfl, fun K hK => ?_⟩
              clear hs hb hx
              go_simp
              exact hK _ _ rfl (Ext.refl _)
            · intro fa fw hx hs hb
              have s5 : fa.tmps[(5 : Nat)]? = some (.int .i64 k) := (hb 5 (by kernel_rfl)).trans (by rfl)
              refine .inl ⟨wanted_free rfl, fun K hK => ?_⟩
              clear hs hb hx
              go_simp
              exact hK _ _ rfl (Ext.refl _)
            · intro fa fw hx hs hb
              obtain ⟨_, s17, rfl⟩ := hs 0 17 (by kernel_rfl) (by kernel_rfl)
              obtain ⟨_, s18, rfl⟩ := hs 1 18 (by kernel_rfl) (by kernel_rfl)
              refine .inl ⟨wanted_free rfl, fun K hK => ?_⟩
              clear hs hb hx
              go_simp
              exact hK _ _ rfl (Ext.refl _)
            · intro fa fw hx hs hb
              obtain ⟨_, s19, rfl⟩ := hs 2 19 (by kernel_rfl) (by kernel_rfl)
              have c0 := hx.keeps _ _ C1.out
              refine .inl ⟨wanted_free rfl, fun K hK => ?_⟩
              clear hs hb hx
              go_simp
              exact hK _ _ rfl (Ext.refl _)
            · intro fa fw hx hs hb
              have s1 : fa.tmps[(1 : Nat)]? = some (.slice (some ⟨b2, o2, none⟩) n d) := (hb 1 (by kernel_rfl)).trans (by rfl)
              refine .inl ⟨wanted_free rfl, fun K hK => ?_⟩
              clear hs hb hx
              go_simp
              exact hK _ _ rfl (Ext.refl _)
            · intro fa fw hx hs hb
              have s5 : fa.tmps[(5 : Nat)]? = some (.int .i64 k) := (hb 5 (by kernel_rfl)).trans (by rfl)
              refine .inl ⟨wanted_free rfl, fun K hK => ?_⟩
              clear hs hb hx
              go_simp
              exact hK _ _ rfl (Ext.refl _)
            · intro fa fw hx hs hb
              obtain ⟨_, s21, rfl⟩ := hs 4 21 (by kernel_rfl) (by kernel_rfl)
              obtain ⟨_, s22, rfl⟩ := hs 5 22 (by kernel_rfl) (by kernel_rfl)
              refine .inl ⟨wanted_free rfl, fun K hK => ?_⟩
              clear hs hb hx
              go_simp
              exact hK _ _ rfl (Ext.refl _)
            · intro fa fw hx hs hb
              obtain ⟨_, s23, rfl⟩ := hs 6 23 (by kernel_rfl) (by kernel_rfl)
              have c0 := hx.keeps _ _ C2.out
              refine .inl ⟨wanted_free rfl, fun K hK => ?_⟩
              clear hs hb hx
              go_simp
              exact hK _ _ rfl (Ext.refl _)
            · intro fa fw hx hs hb
              obtain ⟨_, s20, rfl⟩ := hs 3 20 (by kernel_rfl) (by kernel_rfl)
              obtain ⟨_, s24, rfl⟩ := hs 7 24 (by kernel_rfl) (by kernel_rfl)
              refine .inl ⟨wanted_free rfl, fun K hK => ?_⟩
              clear hs hb
              go_simp
              refine (sameInts_any A1' A2 x.length y.length c1 c2 x y fw (S1.out.keep hx.keeps) (S2.out.keep hx.keeps) L1.out L2.out).mono ?_
              rintro e w' ⟨rfl, mm, rfl⟩; rw [decide_eq_false HXY.out]
              exact hK _ _ rfl ((Ext.refl _).drewN _)
            · intro fa fw hx hs hb
              obtain ⟨_, s25, rfl⟩ := hs 8 25 (by kernel_rfl) (by kernel_rfl)
              refine .inl ⟨wanted_free rfl, fun K hK => ?_⟩
              clear hs hb hx
              go_simp
              exact hK _ _ rfl (Ext.refl _)
          case rest =>
            intro w2 hxw2
            rintro _ rfl
            rintro _ rfl
            rintro _ rfl
            rintro _ rfl
            rintro _ rfl
            rintro _ rfl
            rintro _ rfl
            rintro _ rfl
            rintro _ rfl
            rintro _ rfl
            simp only [putAll, List.take, Act.put, List.setIfInBounds_toArray, List.set_cons_zero, List.set_cons_succ]
            refine wpAny_done (by kernel_rfl) ?_ _
            go_wp2
            go_ret
            exact ⟨ret_bool (by rw [← HR.out]; simp [HXY.out]), HE.out.trans hxw2⟩
      · have hkn : k = n := by omega
        rw [List.drop_eq_nil_of_le (by omega), List.drop_eq_nil_of_le (by omega)] at hR
        have HR := Lib.hid hR; clear hR
        go_wp2
        go_ret
        exact ⟨ret_bool (by rw [← HR.out]; simp), hext⟩
  · have hne : ((n : Int) != (m : Int)) = true := by simp; omega
    have hxy : M = false := by rw [← HM.out]; simp; intro e; rw [e] at hxl; omega
    have HF := Lib.hid hxy; clear hxy
    go_enter Try.func51, Try.ntmps51
    go_wp2
    go_ret
    exact ⟨ret_bool HF.out.symm, Ext.refl _⟩
end Go.Proofs.Ytjagbnaacfhokaa
/- A row of one-cell elements of the call's own that may begin within its block: a queue. No program in sight. -/
namespace Go.Proofs.Ytjagbnaacfhokaa
set_option linter.unusedVariables false
set_option linter.unusedSimpArgs false
open Go.RowKit

theorem frozen_keep {w w' w2 : World} {p : Addr} {u : Value} {row : Option Nat} (hg : w'.grownBy w2 row) (hx : Ext w w') (hc : w.cell? p = some u) (hne : some p.block ≠ row) : w2.frozen? p = w.frozen? p :=
  (World.frozen?_of_block (hg.block p.block (Nat.lt_of_lt_of_le (lt_of_cell hc) hx.size) hne)).trans (World.frozen?_of_block (hx.block p.block (lt_of_cell hc)))
/-- All that was there is as it was, but for two blocks; new memory may have come. -/
structure Aside (g1 g2 : Nat) (w w' : World) : Prop where
  os : w'.os = w.os
  tape : w'.tape = w.tape
  output : w'.output = w.output
  size : w.heap.size ≤ w'.heap.size
  block : ∀ k, k < w.heap.size → k ≠ g1 → k ≠ g2 → w'.heap[k]? = w.heap[k]?
section
variable {g1 g2 : Nat} {a b c : World}
theorem Aside.refl (g1 g2 : Nat) (w : World) : Aside g1 g2 w w := ⟨rfl, rfl, rfl, Nat.le_refl _, fun _ _ _ _ => rfl⟩
theorem Aside.more (h : Aside g1 g2 a b) (k : Ext b c) : Aside g1 g2 a c :=
  ⟨k.os.trans h.os, k.tape.trans h.tape, k.output.trans h.output, Nat.le_trans h.size k.size, fun i hi h1 h2 => (k.block i (Nat.lt_of_lt_of_le hi h.size)).trans (h.block i hi h1 h2)⟩
theorem Aside.set1 (h : Aside g1 g2 a b) (j : Nat) (v : Value) : Aside g1 g2 a (b.setCell ⟨g1, j, none⟩ v) :=
  ⟨h.os, h.tape, h.output, by simpa using h.size, fun i hi h1 h2 => by rw [heap_setCell_other b ⟨g1, j, none⟩ i v h1]; exact h.block i hi h1 h2⟩
theorem Aside.grown {row : Option Nat} (h : Aside g1 g2 a b) (hg : b.grownBy c row) (hr : ∀ k, row = some k → k = g2 ∨ a.heap.size ≤ k) : Aside g1 g2 a c :=
  ⟨hg.os.trans h.os, hg.tape.trans h.tape, hg.output.trans h.output, Nat.le_trans h.size hg.size, fun i hi h1 h2 => (hg.block i (Nat.lt_of_lt_of_le hi h.size) (fun e => by rcases hr i e.symm with q | q <;> omega)).trans (h.block i hi h1 h2)⟩
theorem Aside.cell (h : Aside g1 g2 a b) {p : Addr} {u : Value} (hc : a.cell? p = some u) (h1 : p.block ≠ g1) (h2 : p.block ≠ g2) : b.cell? p = some u :=
  (World.cell?_of_block (h.block p.block (lt_of_cell hc) h1 h2)).trans hc
theorem Aside.ext {w0 : World} (h : Aside g1 g2 a b) (e : Ext w0 a) (h1 : w0.heap.size ≤ g1) (h2 : w0.heap.size ≤ g2) : Ext w0 b :=
  ⟨h.os.trans e.os, h.tape.trans e.tape, h.output.trans e.output, Nat.le_trans e.size h.size, fun i hi => (h.block i (Nat.lt_of_lt_of_le hi e.size) (by omega) (by omega)).trans (e.block i hi)⟩
end
theorem Sl.aside {g1 g2 : Nat} {a b : World} {A : Option Addr} {n : Nat} {cs : List Value} (h : Sl a A n cs) (k : Aside g1 g2 a b) (hA : ∀ p, A = some p → p.block ≠ g1 ∧ p.block ≠ g2) : Sl b A n cs :=
  ⟨h.1, fun j u hu => let ⟨q, o, e, hc⟩ := h.2 j u hu; ⟨q, o, e, k.cell hc (hA _ e).1 (hA _ e).2⟩⟩
theorem set_same {α : Type} {l : List α} {j : Nat} {x : α} (h : l[j]? = some x) : l.set j x = l := by
  refine List.ext_getElem? fun i => ?_
  rw [List.getElem?_set]
  by_cases e : j = i
  · subst e; rw [if_pos rfl, if_pos (List.getElem?_eq_some_iff.1 h).1, h]
  · rw [if_neg e]
theorem grownBy_set (w : World) (g j : Nat) (v : Value) : w.grownBy (w.setCell ⟨g, j, none⟩ v) (some g) :=
  ⟨rfl, rfl, rfl, by simp, fun i _ hi => heap_setCell_other w ⟨g, j, none⟩ i v (fun e => hi (by simp [e]))⟩
theorem pick_block {s : Value} {gv lo hi B : Nat} (h1 : s.ownBlock ≠ some gv) (h2 : ∀ b, s.ownBlock = some b → B ≤ b ∧ b < lo) (hgv : gv < hi) (hB : B ≤ hi) :
    ∃ b0, (∀ b, s.ownBlock = some b → b = b0) ∧ b0 ≠ gv ∧ B ≤ b0 ∧ ∀ j, lo ≤ j → j < hi → j ≠ b0 := by
  cases hb : s.ownBlock with
  | none => exact ⟨hi, fun b e => by simp at e, by omega, hB, fun j _ h => by omega⟩
  | some b =>
    have := h2 b hb
    exact ⟨b, fun b' e => (Option.some.inj e).symm, fun e => h1 (by rw [hb, e]), this.1, fun j h _ => by omega⟩
def OwnQ (w : World) (base : Nat) (e : TypeId) (v : Value) (xs : List Value) : Prop :=
  (v = .slice none 0 0 ∧ xs = []) ∨ ∃ g off cap cur, v = .slice (some ⟨g, off, none⟩) xs.length cap ∧ base ≤ g ∧ w.heap[g]? = some (.cells cur e (0, 0)) ∧ xs.length ≤ cap ∧ cap ≤ maxLen ∧ off + cap ≤ cur.size ∧ (cur.toList.drop off).take xs.length = xs
section
variable {w w' : World} {base : Nat} {e : TypeId} {v : Value} {n : Nat} {xs : List Value}
theorem OwnQ.of_own (h : w.ownsRow base e 1 v n xs) : OwnQ w base e v xs := by
  rcases h with ⟨hl, ⟨rfl, rfl⟩ | ⟨g, cap, cur, rfl, hb, hg, hnc, hm, hcs, ht⟩⟩
  · exact .inl ⟨rfl, List.eq_nil_of_length_eq_zero (by simpa using hl)⟩
  · have hn : xs.length = n := by omega
    refine .inr ⟨g, 0, cap, cur, by rw [hn], hb, hg, by omega, hm, by omega, ?_⟩
    rw [List.drop_zero, hn]; simpa using ht
theorem OwnQ.lt (h : OwnQ w base e v xs) : ∀ k, v.ownBlock = some k → base ≤ k ∧ k < w.heap.size := by
  intro k hk
  rcases h with ⟨rfl, _⟩ | ⟨g, off, cap, cur, rfl, hb, hg, _⟩
  · simp [Value.ownBlock] at hk
  · simp [Value.ownBlock] at hk
    subst hk
    exact ⟨hb, (Array.getElem?_eq_some_iff.1 hg).1⟩
theorem OwnQ.kept {row : Option Nat} (h : OwnQ w base e v xs) (hg : w.grownBy w' row) (hne : v.ownBlock = none ∨ v.ownBlock ≠ row) : OwnQ w' base e v xs := by
  rcases h with h | ⟨g, off, cap, cur, rfl, hb, hgg, rest⟩
  · exact .inl h
  · refine .inr ⟨g, off, cap, cur, rfl, hb, ?_, rest⟩
    rw [hg.block g (Array.getElem?_eq_some_iff.1 hgg).1 (by simpa [Value.ownBlock] using hne)]
    exact hgg
theorem OwnQ.ext (h : OwnQ w base e v xs) (hx : Ext w w') : OwnQ w' base e v xs := by
  rcases h with h | ⟨g, off, cap, cur, rfl, hb, hgg, rest⟩
  · exact .inl h
  · exact .inr ⟨g, off, cap, cur, rfl, hb, (hx.block g (Array.getElem?_eq_some_iff.1 hgg).1).trans hgg, rest⟩
theorem OwnQ.cell {g off cap : Nat} (h : OwnQ w base e (.slice (some ⟨g, off, none⟩) n cap) xs) : ∀ j u, xs[j]? = some u → w.cell? ⟨g, off + j, none⟩ = some u := by
  intro j u hu
  rcases h with ⟨h0, _⟩ | ⟨g', off', cap', cur, hv, _, hgg, _, _, _, ht⟩
  · cases h0
  · injection hv with h1 _ _
    injection h1 with h1; injection h1 with h1 h2
    subst h1; subst h2
    rw [cell_of_row w g (off + j) cur e (0, 0) hgg]
    rw [← ht, List.getElem?_take] at hu
    split at hu
    · rw [List.getElem?_drop] at hu; simpa using hu
    · cases hu
theorem OwnQ.slice (h : OwnQ w base e v xs) : ∃ A c, v = .slice A xs.length c ∧ xs.length ≤ c ∧ c ≤ maxLen ∧ Sl w A xs.length xs := by
  have h' := h
  rcases h with ⟨rfl, rfl⟩ | ⟨g, off, cap, cur, rfl, _, hgg, hnc, hm, _, _⟩
  · exact ⟨none, 0, rfl, Nat.le_refl _, Nat.zero_le _, Sl.nil _ _⟩
  · exact ⟨_, _, rfl, hnc, hm, rfl, fun k u hu => ⟨g, off, rfl, h'.cell k u hu⟩⟩
/-- The first is taken off. -/
theorem OwnQ.tail {x : Value} (h : OwnQ w base e v (x :: xs)) : ∃ g off c, v = .slice (some ⟨g, off, none⟩) (xs.length + 1) c ∧ xs.length + 1 ≤ c ∧ c ≤ maxLen ∧ w.cell? ⟨g, off, none⟩ = some x ∧
    OwnQ w base e (.slice (some (if c = 1 then ⟨g, off, none⟩ else ⟨g, off + 1, none⟩)) xs.length (c - 1)) xs := by
  have h' := h
  rcases h with ⟨_, h0⟩ | ⟨g, off, cap, cur, rfl, hb, hgg, hnc, hm, hcs, ht⟩
  · cases h0
  · simp only [List.length_cons] at hnc ht ⊢
    refine ⟨g, off, cap, rfl, hnc, hm, by simpa using h'.cell 0 x (by simp), ?_⟩
    by_cases h1 : cap = 1
    · rw [if_pos h1]
      have : xs = [] := List.eq_nil_of_length_eq_zero (by omega)
      subst this
      exact .inr ⟨g, off, cap - 1, cur, rfl, hb, hgg, by simp, by omega, by omega, by simp⟩
    · rw [if_neg h1]
      refine .inr ⟨g, off + 1, cap - 1, cur, rfl, hb, hgg, by omega, by omega, by omega, ?_⟩
      have e1 : cur.toList.drop (off + 1) = (cur.toList.drop off).tail := by rw [List.tail_drop]
      have e2 : ∀ (l : List Value) (n : Nat), l.tail.take n = (l.take (n + 1)).tail := fun l n => by cases l <;> simp
      rw [e1, e2, ht]; rfl
end

/-- append onto such a row. -/
theorem OwnQ.append {P : Program} {w : World} (t ty e : TypeId) {z : Value} {bytes : Nat} (tab : (P.info? e).map (fun i => (i.zero, i.size, i.bytes)) = some (some z, 1, bytes)) (ht : P.underlying t = some (.slice e)) (hzs : z.cells.size = 1) (h8 : bytes ≤ 65536)
    {base : Nat} (hbase : base ≤ w.heap.size) {v : Value} {xs : List Value} (hown : OwnQ w base e v xs) (A : Option Addr) (m c : Nat) (news : List Value) (hr : Sl w A m news) (h1 : ∀ u ∈ news, u.oneCell' = true)
    (hbytes : (xs.length + m) * bytes ≤ 140737489403904) (hm4 : xs.length + m ≤ 9007199254740992) :
    ∃ v' w', (Builtin.append_ #[t, t] ty #[v, .slice A m c]).run P w = .ok v' w' ∧ OwnQ w' base e v' (xs ++ news) ∧ w.grownBy w' v.ownBlock ∧ ∀ k, v'.ownBlock = some k → v.ownBlock = some k ∨ w.heap.size ≤ k := by
  have h63 : xs.length + m ≤ maxLen := by unfold maxLen; omega
  obtain ⟨i, hi, hz, hs1, hs2⟩ := info_parts tab
  rcases Nat.eq_zero_or_pos m with hm0 | hmp
  · subst hm0
    have hn : news = [] := List.eq_nil_of_length_eq_zero hr.1
    subst hn
    refine ⟨v, w, ?_, by simpa using hown, World.grownBy.refl w _, fun k hk => .inl hk⟩
    rcases hown with ⟨rfl, rfl⟩ | ⟨g, off, cap, cur, rfl, _, _, hnc, _⟩
    · simp [Builtin.append_, run_underlying ht, sizeOf, typeInfo, hi, Builtin.lenOf, Builtin.firstCells, loadCells, loadCellsFrom]
      try (cases A <;> simp [Builtin.firstCells, loadCells, loadCellsFrom])
    · simp [Builtin.append_, run_underlying ht, sizeOf, typeInfo, hi, Builtin.lenOf, hnc]
      cases A <;> simp [Builtin.firstCells, loadCells, loadCellsFrom, storeCells]
  obtain ⟨b, off0, rfl⟩ : ∃ b off, A = some ⟨b, off, none⟩ := by
    have hl : 0 < news.length := by rw [hr.1]; exact hmp
    obtain ⟨b, off, e2, _⟩ := hr.2 0 _ (List.getElem?_eq_getElem hl)
    exact ⟨b, off, e2⟩
  have hcells : ∀ j u, news[j]? = some u → w.cell? ((⟨b, off0, none⟩ : Addr).add j) = some u := by
    intro j u hu
    obtain ⟨b', off', e2, hc⟩ := hr.2 j u hu
    injection e2 with e2; injection e2 with e2 e3
    subst e2; subst e3
    rw [add_plain']; exact hc
  have hnl : news.length = m * i.size := by rw [hs1, hr.1]; omega
  have hlen : (xs ++ news).length = xs.length + m := by rw [List.length_append, hr.1]
  have grown : ∀ (old : Nat) (row : Option Nat),
      OwnQ (w.drew.alloc (.cells (xs.toArray ++ news.toArray ++ Builtin.zeroCells z.cells (grownCap w (xs.length + m) old e - (xs.length + m))) e)) base e
        (.slice (some ⟨w.heap.size, 0, none⟩) (xs.length + m) (grownCap w (xs.length + m) old e)) (xs ++ news) ∧
      w.grownBy (w.drew.alloc (.cells (xs.toArray ++ news.toArray ++ Builtin.zeroCells z.cells (grownCap w (xs.length + m) old e - (xs.length + m))) e)) row := by
    intro old row
    have hge := grownCap_ge w (xs.length + m) old e
    refine ⟨.inr ⟨w.heap.size, 0, _, _, by rw [hlen], hbase, heap_alloc_new w.drew _, by rw [hlen]; exact hge, grownCap_le_maxLen w _ old e h63, ?_, ?_⟩, ⟨rfl, rfl, rfl, by simp, fun k hk _ => Below.heap_alloc w.drew _ k hk⟩⟩
    · simp only [Array.size_append, List.size_toArray, size_zeroCells, hzs, hr.1, Nat.mul_one]
      omega
    · simp only [Array.toList_append, List.append_assoc, List.drop_zero]
      rw [← List.append_assoc]
      exact List.take_left
  rcases hown with ⟨rfl, rfl⟩ | ⟨g, off, cap, cur, rfl, hbg, hg, hnc, hcm, hcs, htake⟩
  · have hr0 := run_append_nil (P := P) w t ty e i z ht hi hz ⟨b, off0, none⟩ m c news hnl hcells hmp (by omega) (by rw [hs2]; simp only [List.length_nil, Nat.zero_add] at hbytes; omega)
    have hgr := grown 0 (Value.ownBlock (.slice none 0 0))
    simp only [List.length_nil, Nat.zero_add, List.nil_append, Array.empty_append] at hgr ⊢
    exact ⟨_, _, hr0, hgr.1, hgr.2, fun k hk => .inr (by simp [Value.ownBlock] at hk; omega)⟩
  · by_cases hroom : xs.length + m ≤ cap
    · have hf := run_firstCells_some (P := P) w i.size m ⟨b, off0, none⟩ m c news hnl hcells
      have hst := run_storeCells_at P g (off + xs.length) e news 0 cur w hg (by rw [hr.1]; omega) h1
      simp only [Nat.add_zero] at hst
      have hrun : (Builtin.append_ #[t, t] ty #[.slice (some ⟨g, off, none⟩) xs.length cap, .slice (some ⟨b, off0, none⟩) m c]).run P w =
          .ok (.slice (some ⟨g, off, none⟩) (xs.length + m) cap) (w.setRow g (cur.toList.take (off + xs.length) ++ news ++ cur.toList.drop (off + xs.length + news.length)).toArray) := by
        rw [hs1] at hf
        simp [Builtin.append_, run_underlying ht, sizeOf, typeInfo, hi, hs1, Builtin.lenOf, hroom, hf, add_plain', hst]
      refine ⟨_, _, hrun, .inr ⟨g, off, cap, _, by rw [hlen], hbg, setRow_heap w g cur _ e _ hg, by rw [hlen]; exact hroom, hcm, ?_, ?_⟩, ⟨rfl, rfl, rfl, by simp, fun k _ hk => setRow_other w g k _ (fun e => hk (by simp [Value.ownBlock, e]))⟩, fun k hk => .inl hk⟩
      · have := hr.1
        simp only [List.size_toArray, List.length_append, List.length_take, List.length_drop, Array.length_toList]
        omega
      · have h2 : off ≤ (cur.toList.take (off + xs.length)).length := by simp; omega
        have h3 : (cur.toList.take (off + xs.length)).drop off = xs := by rw [List.drop_take, Nat.add_sub_cancel_left]; exact htake
        simp only [List.append_assoc]
        rw [List.drop_append_of_le_length h2, h3, ← List.append_assoc]
        exact List.take_left
    · have holds : ∀ j u, xs[j]? = some u → w.cell? ((⟨g, off, none⟩ : Addr).add j) = some u := fun j u hu => by
        rw [add_plain']
        exact OwnQ.cell (.inr ⟨g, off, cap, cur, rfl, hbg, hg, hnc, hcm, hcs, htake⟩ : OwnQ w base e (.slice (some ⟨g, off, none⟩) xs.length cap) xs) j u hu
      have hr0 := run_append_grow (P := P) w t ty e i z ht hi hz ⟨g, off, none⟩ xs.length cap xs (by rw [hs1]; omega) holds ⟨b, off0, none⟩ m c news hnl hcells (by omega) (by omega) (by rw [hs2]; exact growslice_big (by omega) hbytes h8)
      have hgr := grown cap (Value.ownBlock (.slice (some ⟨g, off, none⟩) xs.length cap))
      exact ⟨_, _, hr0, hgr.1, hgr.2, fun k hk => .inr (by simp [Value.ownBlock] at hk; omega)⟩
/-- The same in a walk. -/
theorem wpList_appendQ {P : Program} {ops : Array Oper} {rest : List Oper} {o : Oper} {a : Act} {Q : Exit → Act → World → Prop} {w : World} (hgd : o.guard = none) (s x : Operand) (t e : TypeId)
    (ho : o.op = .call { callee := .builtin .append, args := #[s, x], argTypes := #[t, t] })
    {z : Value} {bytes : Nat} (tab : (P.info? e).map (fun i => (i.zero, i.size, i.bytes)) = some (some z, 1, bytes)) (ht : P.underlying t = some (.slice e)) (hzs : z.cells.size = 1) (h8 : bytes ≤ 65536)
    (base : Nat) (hbase : base ≤ w.heap.size) (v : Value) (xs : List Value) (hs : a.eval s = v) (hown : OwnQ w base e v xs)
    (A : Option Addr) (m c : Nat) (news : List Value) (hx : a.eval x = .slice A m c) (hr : Sl w A m news) (h1 : ∀ u ∈ news, u.oneCell' = true)
    (hbytes : (xs.length + m) * bytes ≤ 140737489403904) (hm4 : xs.length + m ≤ 9007199254740992)
    (h : ∀ v' w', OwnQ w' base e v' (xs ++ news) → w.grownBy w' v.ownBlock → (∀ k, v'.ownBlock = some k → v.ownBlock = some k ∨ w.heap.size ≤ k) → wpList P ops Q rest (a.put o.dst v') w') : wpList P ops Q (o :: rest) a w := by
  obtain ⟨v', w', hrun, k1, k2, k3⟩ := OwnQ.append t o.type e tab ht hzs h8 hbase hown A m c news hr h1 hbytes hm4
  refine wpList_plain hgd fun K hK => ?_
  unfold Oper.wp execOp
  simp only [ho, resolve, invoke, builtin, Sem.run_bind, Sem.run_pure, Result.andThen_ok, List.map_toArray, List.map_cons, List.map_nil, hs, hx, hrun]
  exact hK _ _ (h v' w' k1 k2 k3)
end Go.Proofs.Ytjagbnaacfhokaa
/- Right gates; what Step and Solves tell, as one value. No program in sight. -/
namespace Go.Proofs.Ytjagbnaacfhokaa
set_option linter.unusedVariables false
set_option linter.unusedSimpArgs false

/-- A gate of a right net: gn gates, rn registers, jn inputs. -/
structure GateR (gn rn jn : Nat) (g : GateM) : Prop where
  kind : 0 ≤ g.kind ∧ g.kind ≤ 6
  args : ∀ a ∈ g.args, 0 ≤ a ∧ a < gn
  al : g.args.length ≤ 16
  inp : g.kind = 2 → 0 ≤ g.num ∧ g.num < jn
  reg : g.kind = 3 → 0 ≤ g.num ∧ g.num < rn
  one : g.kind = 6 → g.args.length = 1
  none : g.kind ≤ 3 → g.args.length = 0
theorem NetOK.gate {N : NetM} (ok : NetOK N) {g : GateM} (hg : g ∈ N.gates) : GateR N.gates.length N.regs.length N.ins.toNat g := by
  have hf := ok.form g hg
  have hk := ok.kinds g hg
  simp only [formM, Bool.and_eq_true, decide_eq_true_eq] at hf
  obtain ⟨⟨h1, h2⟩, h3⟩ := hf
  refine ⟨hk, fun a ha => ok.named a (List.mem_append_right _ (List.mem_flatMap.2 ⟨g, hg, ha⟩)), ok.al g hg, fun e => ?_, fun e => ?_, fun e => ?_, fun e => ?_⟩
  · rw [if_pos e] at h3; have := ok.ins0; omega
  · rw [if_neg (by omega), if_pos e] at h3; omega
  · rw [if_neg (by omega), if_pos e] at h1; simpa using h1
  · rw [if_neg (by omega), if_neg (by omega)] at h1; simpa using h1

def askedM (N : NetM) (regs ins : List Int) : Int :=
  if checkN N ≠ 0 then checkN N else if regs.length ≠ N.regs.length ∨ (ins.length : Int) ≠ N.ins then 1 else if regs.any bad3 then 3 else if ins.any bad3 then 3 else 0
def stepV (N : NetM) (regs ins : List Int) : List Int × Int := if askedM N regs ins ≠ 0 then ([], askedM N regs ins) else (settledM N.gates regs ins, 0)
def solvesV (N : NetM) (regs ins v : List Int) : Bool × Int :=
  if askedM N regs ins ≠ 0 then (false, askedM N regs ins) else if v.length ≠ N.gates.length then (false, 1) else if v.any bad3 then (false, 3) else (decide (nextV N.gates regs ins v = v), 0)
structure AskedOK (N : NetM) (regs ins : List Int) : Prop where
  net : NetOK N
  rl : regs.length = N.regs.length
  il : (ins.length : Int) = N.ins
  rg : goodL regs
  ig : goodL ins
theorem askedM_ok {N : NetM} {regs ins : List Int} (h : askedM N regs ins = 0) : AskedOK N regs ins := by
  unfold askedM at h
  by_cases h0 : checkN N = 0
  · rw [if_neg (by simp [h0])] at h
    split at h
    · cases h
    rename_i h1
    split at h
    · cases h
    rename_i h2
    split at h
    · cases h
    rename_i h3
    simp only [not_or, ne_eq, Decidable.not_not] at h1
    exact ⟨checkN_ok h0, h1.1, h1.2, goodL_of (by simpa using h2), goodL_of (by simpa using h3)⟩
  · rw [if_pos h0] at h; exact absurd h h0
theorem checkM_zero {l : List Int} (h : checkM l = 0) : goodL l := by
  unfold checkM at h
  cases hb : l.any bad3 with
  | true => rw [hb] at h; simp at h
  | false => exact goodL_of hb
theorem nextV_from {gs : List GateM} {regs ins v : List Int} : nextV gs regs ins v = v ↔ (gs.zip v).all (fun y => decide (worthM regs ins v y.1 = y.2)) = true ∧ v.length = gs.length := by
  unfold nextV
  constructor
  · intro h
    have hl : v.length = gs.length := by have := congrArg List.length h; simpa using this.symm
    refine ⟨?_, hl⟩
    rw [List.all_eq_true]
    intro y hy
    obtain ⟨k, hk, e⟩ := List.mem_iff_getElem.1 hy
    rw [List.getElem_zip] at e
    subst e
    simp only [List.length_zip] at hk
    have h2 : (gs.map (worthM regs ins v))[k]? = v[k]? := by rw [h]
    rw [List.getElem?_map, List.getElem?_eq_getElem (by omega), List.getElem?_eq_getElem (by omega)] at h2
    simp at h2
    simpa using h2
  · rintro ⟨h, hl⟩
    refine List.ext_getElem? fun k => ?_
    rcases Nat.lt_or_ge k gs.length with q | q
    · have hm : (gs[k], v[k]) ∈ gs.zip v := List.mem_iff_getElem.2 ⟨k, by simp; omega, by simp⟩
      have := List.all_eq_true.1 h _ hm
      simp only [decide_eq_true_eq] at this
      rw [List.getElem?_map, List.getElem?_eq_getElem q, List.getElem?_eq_getElem (by omega)]
      simp [this]
    · rw [List.getElem?_eq_none (by simpa using q), List.getElem?_eq_none (by omega)]
end Go.Proofs.Ytjagbnaacfhokaa
/- A row of rows of numbers, all of the call's own. No program in sight. -/
namespace Go.Proofs.Ytjagbnaacfhokaa
set_option linter.unusedVariables false
set_option linter.unusedSimpArgs false
open Go.RowKit

structure Rows2 (E T : TypeId) (w : World) (base g0 n : Nat) (U : List (List Int)) (vs : List Value) : Prop where
  row : w.ownsRow base E 1 (.slice (some ⟨g0, 0, none⟩) n n) n vs
  len : U.length = n
  own : ∀ (k : Nat) v u, vs[k]? = some v → U[k]? = some u → w.ownsRow base T 1 v u.length (u.map I)
  off : ∀ (k : Nat) v, vs[k]? = some v → v.ownBlock ≠ some g0
  apart : ∀ (j k : Nat) v v', vs[j]? = some v → vs[k]? = some v' → j ≠ k → v.ownBlock = none ∨ v.ownBlock ≠ v'.ownBlock
section
variable {E T : TypeId} {w w' : World} {base g0 n : Nat} {U : List (List Int)} {vs : List Value}
theorem Rows2.vl (h : Rows2 E T w base g0 n U vs) : vs.length = n := by have := h.row.1; omega
theorem Rows2.start (w : World) (hb : base ≤ w.heap.size) (hm : n ≤ maxLen) (g0 : Nat) (hg0 : g0 = w.heap.size) : Rows2 E T (w.alloc (.cells (zeros (.slice none 0 0) n) E)) base g0 n (List.replicate n []) (List.replicate n (.slice none 0 0)) := by
  subst hg0
  refine ⟨own_made w E _ n base hb hm, by simp, fun k v u hv hu => ?_, fun k v hv => ?_, fun j k v v' hv _ _ => ?_⟩
  · rw [List.getElem?_replicate] at hv hu
    split at hv
    · rename_i hk
      rw [if_pos hk] at hu
      injection hv with hv; injection hu with hu
      subst hv; subst hu
      exact World.ownsRow_nil _ _ _ _
    · cases hv
  · rw [List.getElem?_replicate] at hv
    split at hv
    · injection hv with hv; subst hv; simp [Value.ownBlock]
    · cases hv
  · rw [List.getElem?_replicate] at hv
    split at hv
    · injection hv with hv; subst hv; exact .inl rfl
    · cases hv
theorem Rows2.ext (h : Rows2 E T w base g0 n U vs) (hx : Ext w w') : Rows2 E T w' base g0 n U vs :=
  ⟨own_ext h.row hx, h.len, fun k v u hv hu => own_ext (h.own k v u hv hu) hx, h.off, h.apart⟩
theorem Rows2.base_le {base' : Nat} (h : Rows2 E T w base g0 n U vs) (hb : base' ≤ base) : Rows2 E T w base' g0 n U vs :=
  ⟨own_base h.row hb, h.len, fun k v u hv hu => own_base (h.own k v u hv hu) hb, h.off, h.apart⟩
theorem Rows2.get (h : Rows2 E T w base g0 n U vs) {k : Nat} (hk : k < n) : ∃ v u, vs[k]? = some v ∧ U[k]? = some u ∧ w.cell? ⟨g0, k, none⟩ = some v ∧ w.frozen? ⟨g0, k, none⟩ = false ∧ w.ownsRow base T 1 v u.length (u.map I) ∧ base ≤ g0 := by
  obtain ⟨⟨v, h1, h2⟩, h3, h4⟩ := own_at h.row hk
  have hlt : k < U.length := by rw [h.len]; exact hk
  have hu : U[k]? = some U[k] := List.getElem?_eq_getElem hlt
  exact ⟨v, _, h1, hu, h2, h3, h.own k v _ h1 hu, h4⟩
/-- One more number in one of the rows. -/
theorem Rows2.step (h : Rows2 E T w base g0 n U vs) {a : Nat} {v v' : Value} {u : List Int} {x : Int} (hv : vs[a]? = some v) (hu : U[a]? = some u)
    (hown : w'.ownsRow base T 1 v' (u.length + 1) (u.map I ++ [I x])) (hg : w.grownBy w' v.ownBlock) (hf : ∀ k, v'.ownBlock = some k → v.ownBlock = some k ∨ w.heap.size ≤ k) :
    Rows2 E T (w'.setCell ⟨g0, a, none⟩ v') base g0 n (U.modify a (· ++ [x])) (vs.set a v') := by
  have hal : a < vs.length := (List.getElem?_eq_some_iff.1 hv).1
  have hau : a < U.length := (List.getElem?_eq_some_iff.1 hu).1
  have hv' : v'.ownBlock ≠ some g0 := fun e => by
    rcases hf g0 e with q | q
    · exact h.off a v hv q
    · have := (h.row.lt g0 rfl).2; omega
  have hrow : w'.ownsRow base E 1 (.slice (some ⟨g0, 0, none⟩) n n) n vs := h.row.kept hg (.inr (fun e => h.off a v hv e.symm))
  refine ⟨(hrow.stored a v').1, by simp [h.len], fun k y z hy hz => ?_, fun k y hy => ?_, fun j k y y' hy hy' hne => ?_⟩
  · by_cases e : a = k
    · subst e
      rw [List.getElem?_set_self hal] at hy
      injection hy with hy; subst hy
      rw [List.getElem?_modify_eq, hu] at hz
      injection hz with hz; subst hz
      have := own_other (g := g0) (j := a) (u := v') hown hv'
      simpa using this
    · rw [List.getElem?_set_ne e] at hy
      rw [List.getElem?_modify] at hz; simp only [if_neg e] at hz; have hz : U[k]? = some z := by simpa using hz
      have h1 := h.own k y z hy hz
      have h2 := h1.kept hg (h.apart k a y v hy hv (fun q => e q.symm))
      exact own_other h2 (h.off k y hy)
  · by_cases e : a = k
    · subst e
      rw [List.getElem?_set_self hal] at hy
      injection hy with hy; subst hy; exact hv'
    · rw [List.getElem?_set_ne e] at hy; exact h.off k y hy
  · by_cases e : a = j
    · subst e
      rw [List.getElem?_set_self hal] at hy
      injection hy with hy; subst hy
      rw [List.getElem?_set_ne hne] at hy'
      cases hb : v'.ownBlock with
      | none => exact .inl rfl
      | some b =>
        right
        intro q
        rcases hf b hb with q2 | q2
        · rcases h.apart a k v y' hv hy' hne with q3 | q3
          · rw [q3] at q2; cases q2
          · exact q3 (q2.trans q)
        · cases hz : U[k]? with
          | none => have := (List.getElem?_eq_some_iff.1 hy').1; have := List.getElem?_eq_none_iff.1 hz; have := h.len; have := h.vl; omega
          | some z => have := ((h.own k y' z hy' hz).lt b q.symm).2; omega
    · rw [List.getElem?_set_ne e] at hy
      by_cases e2 : a = k
      · subst e2
        rw [List.getElem?_set_self hal] at hy'
        injection hy' with hy'; subst hy'
        cases hb : y.ownBlock with
        | none => exact .inl rfl
        | some b =>
          right
          intro q
          rcases hf b q.symm with q2 | q2
          · rcases h.apart j a y v hy hv hne with q3 | q3
            · rw [q3] at hb; cases hb
            · exact q3 (hb.trans q2.symm)
          · cases hz : U[j]? with
            | none => have := (List.getElem?_eq_some_iff.1 hy).1; have := List.getElem?_eq_none_iff.1 hz; have := h.len; have := h.vl; omega
            | some z => have := ((h.own j y z hy hz).lt b hb).2; omega
      · rw [List.getElem?_set_ne e2] at hy'
        exact h.apart j k y y' hy hy' hne
end
theorem len_le_total {U : List (List Int)} : ∀ {k : Nat} {u : List Int}, U[k]? = some u → u.length ≤ totalU U := by
  induction U with
  | nil => intro k u h; simp at h
  | cons x U ih =>
    intro k u h
    simp only [totalU, List.map_cons, List.sum_cons]
    cases k with
    | zero => simp at h; subst h; omega
    | succ k => have := ih (by simpa using h); simp only [totalU] at this; omega
end Go.Proofs.Ytjagbnaacfhokaa
