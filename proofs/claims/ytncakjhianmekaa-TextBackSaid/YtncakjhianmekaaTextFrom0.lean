/- The reference's reader of texts: what it leaves; two parts. -/
import Derived.Test.YtncakjhianmekaaTextRead
import Derived.StillTailTactics
import Derived.WalkHide
import Derived.Test.YtncakjhianmekaaFlow
import Derived.Deep.DeepCutAuto
import Derived.Deep.Light
namespace Go.Proofs.Ytncakjhianmekaa
set_option linter.unusedVariables false
set_option linter.unusedSimpArgs false
open Go.RowKit
set_option linter.unusedSectionVars false

/-- What nodeFrom leaves. -/
def FromPost (w : World) (left : Nat) (o : Option (Tr × List UInt8)) (e : Ending) (w' : World) : Prop :=
  match o with
  | some q => ∃ A c, e = .returned (Pr3 (.slice A q.1.size c) (S q.2) (.bool true)) ∧ SlN w' A q.1.size q.1.flat ∧ q.1.size ≤ c ∧ c ≤ maxLen ∧ q.1.size ≤ left ∧ q.2.length ≤ 5000 ∧ Ext w w'
  | none => ∃ u v, e = .returned (Pr3 u v (.bool false)) ∧ Ext w w'
def FromOK (n : Nat) : Prop := ∀ (w : World) (s : List UInt8) (left : Int), s.length ≤ 5000 → -100 ≤ left → left ≤ 14 → left < n →
  Calls Try.prog 21 #[S s, I left] w (FromPost w left.toNat (rreadT n left.toNat s))
theorem FromOK.yes {n m : Nat} (h : FromOK n) {w : World} {s : List UInt8} {left : Int} (hm : left.toNat = m) (hs : s.length ≤ 5000) (h0 : -100 ≤ left) (h1 : left ≤ 14) (hn : left < n) {q : Tr × List UInt8} (hq : rreadT n m s = some q) :
    Calls Try.prog 21 #[S s, I left] w fun e w' => ∃ A c, e = .returned (Pr3 (.slice A q.1.size c) (S q.2) (.bool true)) ∧ SlN w' A q.1.size q.1.flat ∧ q.1.size ≤ c ∧ c ≤ maxLen ∧ q.1.size ≤ m ∧ q.2.length ≤ 5000 ∧ Ext w w' := by
  subst hm
  have := h w s left hs h0 h1 hn; rw [hq] at this; exact this
theorem FromOK.no {n m : Nat} (h : FromOK n) {w : World} {s : List UInt8} {left : Int} (hm : left.toNat = m) (hs : s.length ≤ 5000) (h0 : -100 ≤ left) (h1 : left ≤ 14) (hn : left < n) (hq : rreadT n m s = none) :
    Calls Try.prog 21 #[S s, I left] w fun e w' => ∃ u v, e = .returned (Pr3 u v (.bool false)) ∧ Ext w w' := by
  subst hm
  have := h w s left hs h0 h1 hn; rw [hq] at this; exact this

theorem SlN.cells {w : World} {b off n : Nat} {ps : List PNode} (h : SlN w (some ⟨b, off, none⟩) n ps) (j : Nat) (u : Value) (hu : (flatN ps)[j]? = some u) : w.cell? ((⟨b, off, none⟩ : Addr).add j) = some u := by
  rw [add_plain']
  have hl := (List.getElem?_eq_some_iff.1 hu).1
  rw [flatN_len] at hl
  obtain ⟨k, hk⟩ : ∃ k, j = k * 2 ∨ j = k * 2 + 1 := ⟨j / 2, by omega⟩
  have hkl : k < ps.length := by omega
  obtain ⟨b', off', e, h1, h2⟩ := h.2 k _ (List.getElem?_eq_getElem hkl)
  injection e with e; injection e with e1 e2
  subst e1; subst e2
  have hg := flat2_get PK PS ps k
  rw [List.getElem?_eq_getElem hkl] at hg
  rcases hk with rfl | rfl
  · have := hg.1.symm.trans hu
    rw [show off + k * 2 = off + k * 2 from rfl, h1]; simpa using this
  · have := hg.2.symm.trans hu
    rw [← Nat.add_assoc, h2]; simpa using this
theorem SlN.some {w : World} {A : Option Addr} {n : Nat} {ps : List PNode} (h : SlN w A n ps) (hn : 0 < n) : ∃ b off, A = some ⟨b, off, none⟩ := by
  have hl : 0 < ps.length := by rw [h.1]; exact hn
  obtain ⟨b, off, e, _⟩ := h.2 0 _ (List.getElem?_eq_getElem hl)
  exact ⟨b, off, e⟩
theorem flatN_one (ps : List PNode) : ∀ u ∈ flatN ps, u.oneCell' = true := by
  intro u hu
  obtain ⟨x, _, h⟩ := List.mem_flatMap.1 hu
  simp at h; rcases h with rfl | rfl <;> rfl
theorem own_node1 (W : World) (x : PNode) (base : Nat) (hb : base ≤ W.heap.size) : (W.alloc (.cells #[I x.kind, I x.sig] 37)).ownsRow base 37 2 (.slice (some ⟨W.heap.size, 0, none⟩) 1 1) 1 (flatN [x]) := by
  refine ⟨by simp [flatN], .inr ⟨W.heap.size, 1, #[I x.kind, I x.sig], rfl, hb, heap_alloc_new W _, Nat.le_refl _, by unfold maxLen; omega, by simp, by simp [flatN]⟩⟩

section
variable {n : Nat} (hN : FromOK n) (w : World) (x : PNode) (s ahead between behind : List UInt8) (l : Nat) (hs : s.length ≤ 5000) (h1 : ahead.length ≤ 1000) (h2 : between.length ≤ 1000) (h3 : behind.length ≤ 1000) (hl : l ≤ 13) (hn : l < n)
abbrev twoArgs (x : PNode) (s ahead between behind : List UInt8) (l : Nat) : Array Value := #[.agg #[I x.kind, I x.sig], S s, S ahead, S between, S behind, I ((l : Int) + 1)]
include hN hs h1 h2 h3 hl hn
theorem two_0 (hi : isP ahead s = false) : Calls Try.prog 33 (twoArgs x s ahead between behind l) w fun e w' => ∃ u v, e = .returned (Pr3 u v (.bool false)) ∧ Ext w w' := by
  have HI := Lib.hid hi; clear hi
  go_enter Try.func33, Try.ntmps33
  go_wp2_with fail
  refine (after_any s ahead (by omega) (by omega) _).mono ?_; rintro e w1 ⟨rfl, rfl⟩; rw [HI.out]
  go_wp2
  refine bodyPost_ret (v := Pr3 (.slice none 0 0) (S s) (.bool false)) (by simp [results, Try.results33, go_sem]) rfl ⟨_, _, rfl, (Ext.refl _).alloc _⟩
theorem two_1 (hi : isP ahead s = true) (ha : rreadT n (l - 1) (restP ahead s) = none) : Calls Try.prog 33 (twoArgs x s ahead between behind l) w fun e w' => ∃ u v, e = .returned (Pr3 u v (.bool false)) ∧ Ext w w' := by
  have hr1 := rest_len ahead s
  have HI := Lib.hid hi; have HA := Lib.hid ha; clear hi ha
  go_enter Try.func33, Try.ntmps33
  go_wp2_with fail
  refine (after_any s ahead (by omega) (by omega) _).mono ?_; rintro e w1 ⟨rfl, rfl⟩; rw [HI.out]
  go_wp2_with fail
  refine (FromOK.no hN (by omega) (by omega) (by omega) (by omega) (by omega) HA.out).mono ?_; rintro e w2 ⟨u, v, rfl, x2⟩
  go_wp2
  refine bodyPost_ret (v := Pr3 (.slice none 0 0) (S s) (.bool false)) (by simp [results, Try.results33, go_sem]) rfl ⟨_, _, rfl, ((Ext.refl _).alloc _).trans x2⟩
theorem two_2 {qa : Tr × List UInt8} (hi : isP ahead s = true) (ha : rreadT n (l - 1) (restP ahead s) = some qa) (hb : isP between qa.2 = false) : Calls Try.prog 33 (twoArgs x s ahead between behind l) w fun e w' => ∃ u v, e = .returned (Pr3 u v (.bool false)) ∧ Ext w w' := by
  have hr1 := rest_len ahead s
  have HI := Lib.hid hi; have HA := Lib.hid ha; have HB := Lib.hid hb; clear hi ha hb
  go_enter Try.func33, Try.ntmps33
  go_wp2_with fail
  refine (after_any s ahead (by omega) (by omega) _).mono ?_; rintro e w1 ⟨rfl, rfl⟩; rw [HI.out]
  go_wp2_with fail
  refine (FromOK.yes hN (by omega) (by omega) (by omega) (by omega) (by omega) HA.out).mono ?_; rintro e w2 ⟨A, c, rfl, sl, k1, k2, k3, k4, x2⟩
  go_wp2_with fail
  refine (after_any qa.2 between (by omega) (by omega) _).mono ?_; rintro e w3 ⟨rfl, rfl⟩; rw [HB.out]
  go_wp2
  refine bodyPost_ret (v := Pr3 (.slice none 0 0) (S s) (.bool false)) (by simp [results, Try.results33, go_sem]) rfl ⟨_, _, rfl, ((Ext.refl _).alloc _).trans x2⟩
theorem two_3 {qa : Tr × List UInt8} (hi : isP ahead s = true) (ha : rreadT n (l - 1) (restP ahead s) = some qa) (hb : isP between qa.2 = true) (hc : rreadT n (l - qa.1.size) (restP between qa.2) = none) :
    Calls Try.prog 33 (twoArgs x s ahead between behind l) w fun e w' => ∃ u v, e = .returned (Pr3 u v (.bool false)) ∧ Ext w w' := by
  have hr1 := rest_len ahead s; have hr2 := rest_len between qa.2
  have HI := Lib.hid hi; have HA := Lib.hid ha; have HB := Lib.hid hb; have HC := Lib.hid hc; clear hi ha hb hc
  go_enter Try.func33, Try.ntmps33
  go_wp2_with fail
  refine (after_any s ahead (by omega) (by omega) _).mono ?_; rintro e w1 ⟨rfl, rfl⟩; rw [HI.out]
  go_wp2_with fail
  refine (FromOK.yes hN (by omega) (by omega) (by omega) (by omega) (by omega) HA.out).mono ?_; rintro e w2 ⟨A, c, rfl, sl, k1, k2, k3, k4, x2⟩
  go_wp2_with fail
  refine (after_any qa.2 between (by omega) (by omega) _).mono ?_; rintro e w3 ⟨rfl, rfl⟩; rw [HB.out]
  unfold maxLen at k2
  go_wp2_with fail
  refine (FromOK.no hN (by omega) (by omega) (by omega) (by omega) (by omega) HC.out).mono ?_; rintro e w4 ⟨u, v, rfl, x4⟩
  go_wp2
  refine bodyPost_ret (v := Pr3 (.slice none 0 0) (S s) (.bool false)) (by simp [results, Try.results33, go_sem]) rfl ⟨_, _, rfl, (((Ext.refl _).alloc _).trans x2).trans x4⟩
theorem two_4 {qa qb : Tr × List UInt8} (hi : isP ahead s = true) (ha : rreadT n (l - 1) (restP ahead s) = some qa) (hb : isP between qa.2 = true) (hc : rreadT n (l - qa.1.size) (restP between qa.2) = some qb) :
    Calls Try.prog 33 (twoArgs x s ahead between behind l) w fun e w' => ∃ A c, e = .returned (Pr3 (.slice A (1 + qa.1.size + qb.1.size) c) (S (restP behind qb.2)) (.bool (isP behind qb.2))) ∧ SlN w' A (1 + qa.1.size + qb.1.size) (x :: (qa.1.flat ++ qb.1.flat)) ∧ 1 + qa.1.size + qb.1.size ≤ c ∧ c ≤ maxLen ∧ 1 + qa.1.size + qb.1.size ≤ l + 1 ∧ (restP behind qb.2).length ≤ 5000 ∧ Ext w w' := by
  have hr1 := rest_len ahead s; have hr2 := rest_len between qa.2; have hr3 := rest_len behind qb.2
  have HI := Lib.hid hi; have HA := Lib.hid ha; have HB := Lib.hid hb; have HC := Lib.hid hc; clear hi ha hb hc
  obtain ⟨i0, hi0, hz0, hz1, hz2⟩ := info_parts tab_node
  obtain ⟨wx, hwx⟩ : ∃ wx, wx = w.alloc (.cells #[I x.kind, I x.sig] 37) := ⟨_, rfl⟩
  have hxx : Ext w wx := by rw [hwx]; exact (Ext.refl _).alloc _
  have p0 : wx.cell? ⟨w.heap.size, 0, none⟩ = some (I x.kind) := by rw [hwx, World.cell?_alloc_new]; rfl
  have p1 : wx.cell? ⟨w.heap.size, 1, none⟩ = some (I x.sig) := by rw [hwx, World.cell?_alloc_new]; rfl
  have P0 := Lib.hid p0; have P1 := Lib.hid p1; have XX := Lib.hid hxx; have HWX := Lib.hid hwx
  clear p0 p1 hxx hwx
  go_enter Try.func33, Try.ntmps33
  go_wp2_with fail
  rw [← HWX.out]
  refine (after_any s ahead (by omega) (by omega) _).mono ?_; rintro e w1 ⟨rfl, rfl⟩; rw [HI.out]
  go_wp2_with fail
  refine (FromOK.yes hN (by omega) (by omega) (by omega) (by omega) (by omega) HA.out).mono ?_; rintro e w2 ⟨A, c, rfl, sl, k1, k2, k3, k4, x2⟩
  have SL1 := Lib.hid sl; have X2 := Lib.hid x2; clear sl x2
  go_wp2_with fail
  refine (after_any qa.2 between (by omega) (by omega) _).mono ?_; rintro e w3 ⟨rfl, rfl⟩; rw [HB.out]
  unfold maxLen at k2
  go_wp2_with fail
  refine (FromOK.yes hN (by omega) (by omega) (by omega) (by omega) (by omega) HC.out).mono ?_; rintro e w4 ⟨B, d, rfl, sl, m1, m2, m3, m4, x4⟩
  have SL2 := Lib.hid sl; have X4 := Lib.hid x4; clear sl x4
  go_wp2_with fail
  refine (after_any qb.2 behind (by omega) (by omega) _).mono ?_; rintro e w5 ⟨rfl, rfl⟩
  have q0 := (X2.out.trans X4.out).keeps _ _ P0.out
  have q1 := (X2.out.trans X4.out).keeps _ _ P1.out
  unfold maxLen at m2
  have z1 := size_pos qa.1; have z2 := size_pos qb.1
  obtain ⟨b1, o1, rfl⟩ := SL1.out.some z1
  obtain ⟨b2, o2, rfl⟩ := SL2.out.some z2
  have hw4 : wx.heap.size ≤ w4.heap.size := (X2.out.trans X4.out).size
  have hwx : w.heap.size ≤ wx.heap.size := XX.out.size
  go_wp2_with (first
    | (at_builtin; refine wpList_append_own_at _ rfl (.tmp 69) (.tmp 70) 22 rfl w.heap.size 37 i0 (.agg #[.int .i64 0, .int .i64 0]) 2 16 Try.underlying22 hi0 hz0 hz1 hz2 rfl (by decide) _ 1 (flatN [x]) rfl (own_node1 w4 x _ (by omega)) ⟨b1, o1, none⟩ qa.1.size c (flatN qa.1.flat) rfl (by rw [flatN_len, flat_size]) (fun j u hu => Keeps.alloc _ _ _ _ (X4.out.keeps _ _ (SL1.out.cells j u hu))) (flatN_one _) (by unfold maxLen; omega) (by omega) (by simp; omega) ?_; intro va wa howna hgrowa hnila hloca; have xa : Ext w4 wa := Below.grown ((Ext.refl w4).alloc _) hgrowa (by simp) (fun k hk => by have : w4.heap.size = k := Option.some.inj hk; omega); clear hgrowa hnila hloca)
    | (at_builtin; refine wpList_append_own_at _ rfl (.tmp 71) (.tmp 72) 22 rfl w.heap.size 37 i0 (.agg #[.int .i64 0, .int .i64 0]) 2 16 Try.underlying22 hi0 hz0 hz1 hz2 rfl (by decide) _ (1 + qa.1.size) (flatN [x] ++ flatN qa.1.flat) rfl howna ⟨b2, o2, none⟩ qb.1.size d (flatN qb.1.flat) rfl (by rw [flatN_len, flat_size]) (fun j u hu => xa.keeps _ _ (SL2.out.cells j u hu)) (flatN_one _) (by unfold maxLen; omega) (by omega) (by have := xa.size; omega) ?_; intro vb wb hownb hgrowb hnilb hlocb; have xb : Ext w wb := Below.grown (((XX.out.trans X2.out).trans X4.out).trans xa) hgrowb (by have := xa.size; omega) (fun k hk => (howna.lt k hk).1); clear hgrowb hnilb hlocb)
    | go_in)
  rw [show flatN [x] ++ flatN qa.1.flat ++ flatN qb.1.flat = flatN (x :: (qa.1.flat ++ qb.1.flat)) from by simp [flatN]] at hownb
  obtain ⟨D, dc, rfl, n1, n2, sl⟩ := own_nodes hownb
  refine bodyPost_ret (v := Pr3 (.slice D (1 + qa.1.size + qb.1.size) dc) (S (restP behind qb.2)) (.bool (isP behind qb.2))) (by simp [results, Try.results33, go_sem]) rfl ⟨D, dc, rfl, sl, n1, n2, by omega, by omega, xb⟩
end
end Go.Proofs.Ytncakjhianmekaa
