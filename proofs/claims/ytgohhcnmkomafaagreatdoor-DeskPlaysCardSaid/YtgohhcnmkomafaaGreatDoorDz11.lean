/- The reference's reader of texts: what it leaves; two parts. -/
import Derived.Test.YtgohhcnmkomafaaGreatDoorDz09
import Derived.StillTailTactics
import Derived.WalkHide
import Derived.Test.YtgohhcnmkomafaaGreatDoorDz10
import Derived.Deep.DeepCutAuto
import Derived.Deep.Light
namespace Go.Proofs.YtgohhcnmkomafaaGreatDoor
set_option linter.unusedVariables false
set_option linter.unusedSimpArgs false
set_option linter.unusedVariables false
set_option linter.unusedSimpArgs false
open Go.RowKit
set_option linter.unusedSectionVars false
/-- What nodeFrom leaves. -/
def FromPost (w : World) (left : Nat) (o : Option (Tr × List UInt8)) (e : Ending) (w' : World) : Prop :=
  match o with
  | some q => ∃ A c, e = .returned (Pr3 (.slice A q.1.size c) (S q.2) (.bool true)) ∧ SlN w' A q.1.size q.1.flat ∧ q.1.size ≤ c ∧ c ≤ maxLen ∧ q.1.size ≤ left ∧ q.2.length ≤ 5000 ∧ Ext w w'
  | none => ∃ u v, e = .returned (Pr3 u v (.bool false)) ∧ Ext w w'
def FromOK (n : Nat) : Prop := ∀ (w : World) (s : List UInt8) (left : Int), s.length ≤ 5000 → -100 ≤ left → left ≤ 14 → left < n →
  Calls Tryz.prog 42 #[S s, I left] w (FromPost w left.toNat (rreadT n left.toNat s))
theorem FromOK.yes {n m : Nat} (h : FromOK n) {w : World} {s : List UInt8} {left : Int} (hm : left.toNat = m) (hs : s.length ≤ 5000) (h0 : -100 ≤ left) (h1 : left ≤ 14) (hn : left < n) {q : Tr × List UInt8} (hq : rreadT n m s = some q) :
    Calls Tryz.prog 42 #[S s, I left] w fun e w' => ∃ A c, e = .returned (Pr3 (.slice A q.1.size c) (S q.2) (.bool true)) ∧ SlN w' A q.1.size q.1.flat ∧ q.1.size ≤ c ∧ c ≤ maxLen ∧ q.1.size ≤ m ∧ q.2.length ≤ 5000 ∧ Ext w w' := by
  subst hm
  have := h w s left hs h0 h1 hn; rw [hq] at this; exact this
theorem FromOK.no {n m : Nat} (h : FromOK n) {w : World} {s : List UInt8} {left : Int} (hm : left.toNat = m) (hs : s.length ≤ 5000) (h0 : -100 ≤ left) (h1 : left ≤ 14) (hn : left < n) (hq : rreadT n m s = none) :
    Calls Tryz.prog 42 #[S s, I left] w fun e w' => ∃ u v, e = .returned (Pr3 u v (.bool false)) ∧ Ext w w' := by
  subst hm
  have := h w s left hs h0 h1 hn; rw [hq] at this; exact this
theorem SlN.cells {w : World} {b off n : Nat} {ps : List PNode} (h : SlN w (some ⟨b, off, none⟩) n ps) (j : Nat) (u : Value) (hu : (flatN ps)[j]? = some u) : w.cell? ((⟨b, off, none⟩ : Addr).add j) = some u := by
  rw [add_plain']
  have hl := (List.getElem?_eq_some_iff.1 hu).1
  rw [flatN_len] at hl
  obtain ⟨k, hk⟩ : ∃ k, j = k * 2 ∨ j = k * 2 + 1 := ⟨j / 2, by omega⟩
  have hkl : k < ps.length := by omega
  obtain ⟨b', off', e, h1, h2⟩ := h.2 k _ (List.getElem?_eq_getElem hkl)
  injection e with e; injection e with e1 e2
  subst e1; subst e2
  have hg := flat2_get PK PS ps k
  rw [List.getElem?_eq_getElem hkl] at hg
  rcases hk with rfl | rfl
  · have := hg.1.symm.trans hu
    rw [show off + k * 2 = off + k * 2 from rfl, h1]; simpa using this
  · have := hg.2.symm.trans hu
    rw [← Nat.add_assoc, h2]; simpa using this
theorem SlN.some {w : World} {A : Option Addr} {n : Nat} {ps : List PNode} (h : SlN w A n ps) (hn : 0 < n) : ∃ b off, A = some ⟨b, off, none⟩ := by
  have hl : 0 < ps.length := by rw [h.1]; exact hn
  obtain ⟨b, off, e, _⟩ := h.2 0 _ (List.getElem?_eq_getElem hl)
  exact ⟨b, off, e⟩
theorem flatN_one (ps : List PNode) : ∀ u ∈ flatN ps, u.oneCell' = true := by
  intro u hu
  obtain ⟨x, _, h⟩ := List.mem_flatMap.1 hu
  simp at h; rcases h with rfl | rfl <;> rfl
theorem own_node1 (W : World) (x : PNode) (base : Nat) (hb : base ≤ W.heap.size) : (W.alloc (.cells #[I x.kind, I x.sig] 91)).ownsRow base 91 2 (.slice (some ⟨W.heap.size, 0, none⟩) 1 1) 1 (flatN [x]) := by
  refine ⟨by simp [flatN], .inr ⟨W.heap.size, 1, #[I x.kind, I x.sig], rfl, hb, heap_alloc_new W _, Nat.le_refl _, by unfold maxLen; omega, by simp, by simp [flatN]⟩⟩
section
variable {n : Nat} (hN : FromOK n) (w : World) (x : PNode) (s ahead between behind : List UInt8) (l : Nat) (hs : s.length ≤ 5000) (h1 : ahead.length ≤ 1000) (h2 : between.length ≤ 1000) (h3 : behind.length ≤ 1000) (hl : l ≤ 13) (hn : l < n)
abbrev twoArgs (x : PNode) (s ahead between behind : List UInt8) (l : Nat) : Array Value := #[.agg #[I x.kind, I x.sig], S s, S ahead, S between, S behind, I ((l : Int) + 1)]
include hN hs h1 h2 h3 hl hn
theorem two_0 (hi : isP ahead s = false) : Calls Tryz.prog 67 (twoArgs x s ahead between behind l) w fun e w' => ∃ u v, e = .returned (Pr3 u v (.bool false)) ∧ Ext w w' := by
  have HI := Lib.hid hi; clear hi
  go_enter Tryz.func67, Tryz.ntmps67
  go_wp2_with fail
  refine (after_any s ahead (by omega) (by omega) _).mono ?_; rintro e w1 ⟨rfl, rfl⟩; rw [HI.out]
  go_wp2
  refine bodyPost_ret (v := Pr3 (.slice none 0 0) (S s) (.bool false)) (by simp [results, Tryz.results67, go_sem]) rfl ⟨_, _, rfl, (Ext.refl _).alloc _⟩
theorem two_1 (hi : isP ahead s = true) (ha : rreadT n (l - 1) (restP ahead s) = none) : Calls Tryz.prog 67 (twoArgs x s ahead between behind l) w fun e w' => ∃ u v, e = .returned (Pr3 u v (.bool false)) ∧ Ext w w' := by
  have hr1 := rest_len ahead s
  have HI := Lib.hid hi; have HA := Lib.hid ha; clear hi ha
  go_enter Tryz.func67, Tryz.ntmps67
  go_wp2_with fail
  refine (after_any s ahead (by omega) (by omega) _).mono ?_; rintro e w1 ⟨rfl, rfl⟩; rw [HI.out]
  go_wp2_with fail
  refine (FromOK.no hN (by omega) (by omega) (by omega) (by omega) (by omega) HA.out).mono ?_; rintro e w2 ⟨u, v, rfl, x2⟩
  go_wp2
  refine bodyPost_ret (v := Pr3 (.slice none 0 0) (S s) (.bool false)) (by simp [results, Tryz.results67, go_sem]) rfl ⟨_, _, rfl, ((Ext.refl _).alloc _).trans x2⟩
theorem two_2 {qa : Tr × List UInt8} (hi : isP ahead s = true) (ha : rreadT n (l - 1) (restP ahead s) = some qa) (hb : isP between qa.2 = false) : Calls Tryz.prog 67 (twoArgs x s ahead between behind l) w fun e w' => ∃ u v, e = .returned (Pr3 u v (.bool false)) ∧ Ext w w' := by
  have hr1 := rest_len ahead s
  have HI := Lib.hid hi; have HA := Lib.hid ha; have HB := Lib.hid hb; clear hi ha hb
  go_enter Tryz.func67, Tryz.ntmps67
  go_wp2_with fail
  refine (after_any s ahead (by omega) (by omega) _).mono ?_; rintro e w1 ⟨rfl, rfl⟩; rw [HI.out]
  go_wp2_with fail
  refine (FromOK.yes hN (by omega) (by omega) (by omega) (by omega) (by omega) HA.out).mono ?_; rintro e w2 ⟨A, c, rfl, sl, k1, k2, k3, k4, x2⟩
  go_wp2_with fail
  refine (after_any qa.2 between (by omega) (by omega) _).mono ?_; rintro e w3 ⟨rfl, rfl⟩; rw [HB.out]
  go_wp2
  refine bodyPost_ret (v := Pr3 (.slice none 0 0) (S s) (.bool false)) (by simp [results, Tryz.results67, go_sem]) rfl ⟨_, _, rfl, ((Ext.refl _).alloc _).trans x2⟩
theorem two_3 {qa : Tr × List UInt8} (hi : isP ahead s = true) (ha : rreadT n (l - 1) (restP ahead s) = some qa) (hb : isP between qa.2 = true) (hc : rreadT n (l - qa.1.size) (restP between qa.2) = none) :
    Calls Tryz.prog 67 (twoArgs x s ahead between behind l) w fun e w' => ∃ u v, e = .returned (Pr3 u v (.bool false)) ∧ Ext w w' := by
  have hr1 := rest_len ahead s; have hr2 := rest_len between qa.2
  have HI := Lib.hid hi; have HA := Lib.hid ha; have HB := Lib.hid hb; have HC := Lib.hid hc; clear hi ha hb hc
  go_enter Tryz.func67, Tryz.ntmps67
  go_wp2_with fail
  refine (after_any s ahead (by omega) (by omega) _).mono ?_; rintro e w1 ⟨rfl, rfl⟩; rw [HI.out]
  go_wp2_with fail
  refine (FromOK.yes hN (by omega) (by omega) (by omega) (by omega) (by omega) HA.out).mono ?_; rintro e w2 ⟨A, c, rfl, sl, k1, k2, k3, k4, x2⟩
  go_wp2_with fail
  refine (after_any qa.2 between (by omega) (by omega) _).mono ?_; rintro e w3 ⟨rfl, rfl⟩; rw [HB.out]
  unfold maxLen at k2
  go_wp2_with fail
  refine (FromOK.no hN (by omega) (by omega) (by omega) (by omega) (by omega) HC.out).mono ?_; rintro e w4 ⟨u, v, rfl, x4⟩
  go_wp2
  refine bodyPost_ret (v := Pr3 (.slice none 0 0) (S s) (.bool false)) (by simp [results, Tryz.results67, go_sem]) rfl ⟨_, _, rfl, (((Ext.refl _).alloc _).trans x2).trans x4⟩
theorem two_4 {qa qb : Tr × List UInt8} (hi : isP ahead s = true) (ha : rreadT n (l - 1) (restP ahead s) = some qa) (hb : isP between qa.2 = true) (hc : rreadT n (l - qa.1.size) (restP between qa.2) = some qb) :
    Calls Tryz.prog 67 (twoArgs x s ahead between behind l) w fun e w' => ∃ A c, e = .returned (Pr3 (.slice A (1 + qa.1.size + qb.1.size) c) (S (restP behind qb.2)) (.bool (isP behind qb.2))) ∧ SlN w' A (1 + qa.1.size + qb.1.size) (x :: (qa.1.flat ++ qb.1.flat)) ∧ 1 + qa.1.size + qb.1.size ≤ c ∧ c ≤ maxLen ∧ 1 + qa.1.size + qb.1.size ≤ l + 1 ∧ (restP behind qb.2).length ≤ 5000 ∧ Ext w w' := by
  have hr1 := rest_len ahead s; have hr2 := rest_len between qa.2; have hr3 := rest_len behind qb.2
  have HI := Lib.hid hi; have HA := Lib.hid ha; have HB := Lib.hid hb; have HC := Lib.hid hc; clear hi ha hb hc
  obtain ⟨i0, hi0, hz0, hz1, hz2⟩ := info_parts tab_node
  obtain ⟨wx, hwx⟩ : ∃ wx, wx = w.alloc (.cells #[I x.kind, I x.sig] 91) := ⟨_, rfl⟩
  have hxx : Ext w wx := by rw [hwx]; exact (Ext.refl _).alloc _
  have p0 : wx.cell? ⟨w.heap.size, 0, none⟩ = some (I x.kind) := by rw [hwx, World.cell?_alloc_new]; rfl
  have p1 : wx.cell? ⟨w.heap.size, 1, none⟩ = some (I x.sig) := by rw [hwx, World.cell?_alloc_new]; rfl
  have P0 := Lib.hid p0; have P1 := Lib.hid p1; have XX := Lib.hid hxx; have HWX := Lib.hid hwx
  clear p0 p1 hxx hwx
  go_enter Tryz.func67, Tryz.ntmps67
  go_wp2_with fail
  rw [← HWX.out]
  refine (after_any s ahead (by omega) (by omega) _).mono ?_; rintro e w1 ⟨rfl, rfl⟩; rw [HI.out]
  go_wp2_with fail
  refine (FromOK.yes hN (by omega) (by omega) (by omega) (by omega) (by omega) HA.out).mono ?_; rintro e w2 ⟨A, c, rfl, sl, k1, k2, k3, k4, x2⟩
  have SL1 := Lib.hid sl; have X2 := Lib.hid x2; clear sl x2
  go_wp2_with fail
  refine (after_any qa.2 between (by omega) (by omega) _).mono ?_; rintro e w3 ⟨rfl, rfl⟩; rw [HB.out]
  unfold maxLen at k2
  go_wp2_with fail
  refine (FromOK.yes hN (by omega) (by omega) (by omega) (by omega) (by omega) HC.out).mono ?_; rintro e w4 ⟨B, d, rfl, sl, m1, m2, m3, m4, x4⟩
  have SL2 := Lib.hid sl; have X4 := Lib.hid x4; clear sl x4
  go_wp2_with fail
  refine (after_any qb.2 behind (by omega) (by omega) _).mono ?_; rintro e w5 ⟨rfl, rfl⟩
  have q0 := (X2.out.trans X4.out).keeps _ _ P0.out
  have q1 := (X2.out.trans X4.out).keeps _ _ P1.out
  unfold maxLen at m2
  have z1 := size_pos qa.1; have z2 := size_pos qb.1
  obtain ⟨b1, o1, rfl⟩ := SL1.out.some z1
  obtain ⟨b2, o2, rfl⟩ := SL2.out.some z2
  have hw4 : wx.heap.size ≤ w4.heap.size := (X2.out.trans X4.out).size
  have hwx : w.heap.size ≤ wx.heap.size := XX.out.size
  go_wp2_with (first
    | (at_builtin; refine wpList_append_own_at _ rfl (.tmp 69) (.tmp 70) 27 rfl w.heap.size 91 i0 (.agg #[.int .i64 0, .int .i64 0]) 2 16 Tryz.underlying27 hi0 hz0 hz1 hz2 rfl (by decide) _ 1 (flatN [x]) rfl (own_node1 w4 x _ (by omega)) ⟨b1, o1, none⟩ qa.1.size c (flatN qa.1.flat) rfl (by rw [flatN_len, flat_size]) (fun j u hu => Keeps.alloc _ _ _ _ (X4.out.keeps _ _ (SL1.out.cells j u hu))) (flatN_one _) (by unfold maxLen; omega) (by omega) (by simp; omega) ?_; intro va wa howna hgrowa hnila hloca; have xa : Ext w4 wa := Below.grown ((Ext.refl w4).alloc _) hgrowa (by simp) (fun k hk => by have : w4.heap.size = k := Option.some.inj hk; omega); clear hgrowa hnila hloca)
    | (at_builtin; refine wpList_append_own_at _ rfl (.tmp 71) (.tmp 72) 27 rfl w.heap.size 91 i0 (.agg #[.int .i64 0, .int .i64 0]) 2 16 Tryz.underlying27 hi0 hz0 hz1 hz2 rfl (by decide) _ (1 + qa.1.size) (flatN [x] ++ flatN qa.1.flat) rfl howna ⟨b2, o2, none⟩ qb.1.size d (flatN qb.1.flat) rfl (by rw [flatN_len, flat_size]) (fun j u hu => xa.keeps _ _ (SL2.out.cells j u hu)) (flatN_one _) (by unfold maxLen; omega) (by omega) (by have := xa.size; omega) ?_; intro vb wb hownb hgrowb hnilb hlocb; have xb : Ext w wb := Below.grown (((XX.out.trans X2.out).trans X4.out).trans xa) hgrowb (by have := xa.size; omega) (fun k hk => (howna.lt k hk).1); clear hgrowb hnilb hlocb)
    | go_in)
  rw [show flatN [x] ++ flatN qa.1.flat ++ flatN qb.1.flat = flatN (x :: (qa.1.flat ++ qb.1.flat)) from by simp [flatN]] at hownb
  obtain ⟨D, dc, rfl, n1, n2, sl⟩ := own_nodes hownb
  refine bodyPost_ret (v := Pr3 (.slice D (1 + qa.1.size + qb.1.size) dc) (S (restP behind qb.2)) (.bool (isP behind qb.2))) (by simp [results, Tryz.results67, go_sem]) rfl ⟨D, dc, rfl, sl, n1, n2, by omega, by omega, xb⟩
end
end Go.Proofs.YtgohhcnmkomafaaGreatDoor
/- The reference's reader of texts: nodeFrom walked. -/
namespace Go.Proofs.YtgohhcnmkomafaaGreatDoor
set_option linter.unusedVariables false
set_option linter.unusedSimpArgs false
open Go.RowKit
theorem boolV {a b : Bool} {w : World} (h : a = b) : isV (.bool b) (.bool a) w := by rw [h]
theorem ba_tail1 (c : UInt8) (r : List UInt8) : (⟨(c :: r).toArray⟩ : ByteArray).extract 1 (r.length + 1) = ⟨r.toArray⟩ := by
  rw [ba_extract]; simp
theorem twoR_any {n : Nat} (hN : FromOK n) (w : World) (x : PNode) (s ahead between behind : List UInt8) (l : Nat) (hs : s.length ≤ 5000) (h1 : ahead.length ≤ 1000) (h2 : between.length ≤ 1000) (h3 : behind.length ≤ 1000) (hl : l ≤ 13) (hn : l < n) :
    Calls Tryz.prog 67 (twoArgs x s ahead between behind l) w (FromPost w (l + 1) (rtwoT (rreadT n) l x ahead between behind s)) := by
  generalize hF : rtwoT (rreadT n) l x ahead between behind s = G
  unfold rtwoT behindT at hF
  rw [cutP_isP] at hF
  cases hi : isP ahead s
  · rw [hi] at hF; simp at hF; subst hF
    exact two_0 hN w x s ahead between behind l hs h1 h2 h3 hl hn hi
  rw [hi] at hF; simp only [if_true, Option.bind_some] at hF
  cases ha : rreadT n (l - 1) (restP ahead s) with
  | none =>
    rw [ha] at hF; simp at hF; subst hF
    exact two_1 hN w x s ahead between behind l hs h1 h2 h3 hl hn hi ha
  | some qa =>
    rw [ha] at hF; simp only [Option.bind_some] at hF
    rw [cutP_isP] at hF
    cases hb : isP between qa.2
    · rw [hb] at hF; simp at hF; subst hF
      exact two_2 hN w x s ahead between behind l hs h1 h2 h3 hl hn hi ha hb
    rw [hb] at hF; simp only [if_true, Option.bind_some] at hF
    cases hc : rreadT n (l - qa.1.size) (restP between qa.2) with
    | none =>
      rw [hc] at hF; simp at hF; subst hF
      exact two_3 hN w x s ahead between behind l hs h1 h2 h3 hl hn hi ha hb hc
    | some qb =>
      rw [hc] at hF; simp only [Option.bind_some] at hF
      rw [cutP_isP] at hF
      refine (two_4 hN w x s ahead between behind l hs h1 h2 h3 hl hn hi ha hb hc).mono ?_
      rintro e w' ⟨A, c, rfl, k1, k2, k3, k4, k5, k6⟩
      cases hd : isP behind qb.2
      · rw [hd] at hF; simp at hF; subst hF
        exact ⟨_, _, rfl, k6⟩
      · rw [hd] at hF; simp at hF; subst hF
        refine ⟨A, c, rfl, ?_, k2, k3, k4, k5, k6⟩
        rw [flat_two]; exact k1
/-- nodeFrom's world behind its tables. -/
def rfW (w : World) : World := (((w.alloc (.cells #[S wNothing, S wPause, S wHalt] 9)).alloc (.cells #[S wEmit, S wAwait, S wIf, S wWas] 9)).alloc (.cells #[I 3, I 4, I 7, I 8] 3)).alloc (.cells #[.int .u8 65, .int .u8 120, .int .u8 120, .int .u8 65] 5)
theorem rfW_ext (w : World) : Ext w (rfW w) := ((((Ext.refl w).alloc _).alloc _).alloc _).alloc _
theorem rfW_size (w : World) : (rfW w).heap.size = w.heap.size + 1 + 1 + 1 + 1 := by simp [rfW]
theorem rfW_kind (w : World) (k : Nat) (v : Value) (h : ([I 3, I 4, I 7, I 8] : List Value)[k]? = some v) : (rfW w).cell? ⟨w.heap.size + 1 + 1, k, none⟩ = some v := by
  refine Keeps.alloc _ _ _ _ ?_
  have := World.cell?_alloc_new (w := (w.alloc (.cells #[S wNothing, S wPause, S wHalt] 9)).alloc (.cells #[S wEmit, S wAwait, S wIf, S wWas] 9)) #[I 3, I 4, I 7, I 8] 3 k
  rw [World.size_alloc, World.size_alloc] at this
  rw [this]; simpa using h
theorem rfW_first (w : World) (k : Nat) (v : Value) (h : ([.int .u8 65, .int .u8 120, .int .u8 120, .int .u8 65] : List Value)[k]? = some v) : (rfW w).cell? ⟨w.heap.size + 1 + 1 + 1, k, none⟩ = some v := by
  have := World.cell?_alloc_new (w := ((w.alloc (.cells #[S wNothing, S wPause, S wHalt] 9)).alloc (.cells #[S wEmit, S wAwait, S wIf, S wWas] 9)).alloc (.cells #[I 3, I 4, I 7, I 8] 3)) #[.int .u8 65, .int .u8 120, .int .u8 120, .int .u8 65] 5 k
  rw [World.size_alloc, World.size_alloc, World.size_alloc] at this
  unfold rfW; rw [this]; simpa using h
theorem rfW_word (w : World) (k : Nat) (v : Value) (h : ([S wEmit, S wAwait, S wIf, S wWas] : List Value)[k]? = some v) : (rfW w).cell? ⟨w.heap.size + 1, k, none⟩ = some v := by
  refine Keeps.alloc _ _ _ _ (Keeps.alloc _ _ _ _ ?_)
  have := World.cell?_alloc_new (w := w.alloc (.cells #[S wNothing, S wPause, S wHalt] 9)) #[S wEmit, S wAwait, S wIf, S wWas] 9 k
  rw [World.size_alloc] at this
  rw [this]; simpa using h
theorem rfW_eq (w : World) : (((w.alloc (.cells #[.string ⟨#[110, 111, 116, 104, 105, 110, 103]⟩, .string ⟨#[112, 97, 117, 115, 101]⟩, .string ⟨#[104, 97, 108, 116]⟩] 9)).alloc (.cells #[.string ⟨#[101, 109, 105, 116, 32]⟩, .string ⟨#[97, 119, 97, 105, 116, 32]⟩, .string ⟨#[105, 102, 32]⟩, .string ⟨#[119, 97, 115, 32]⟩] 9)).alloc (.cells #[.int .i64 3, .int .i64 4, .int .i64 7, .int .i64 8] 3)).alloc (.cells #[.int .u8 65, .int .u8 120, .int .u8 120, .int .u8 65] 5) = rfW w := rfl
set_option maxHeartbeats 400000 in
theorem from_p0 (w : World) (s : List UInt8) (l : Nat) (hs : s.length ≤ 5000) (hl : l ≤ 13) (hi0 : isP wNothing s = true) :
    Calls Tryz.prog 42 #[S s, I ((l : Int) + 1)] w (FromPost w (l + 1) (some (.leaf ⟨0, 0⟩, restP wNothing s))) := by
  have HI0 := Lib.hid hi0; clear hi0
  go_enter Tryz.func42, Tryz.ntmps42
  go_wp2_with fail
  refine wp_loop_rounds 4 ?_
  rw [rounds_succ]
  go_wp2_with fail
  refine (after_any s wNothing (by omega) (by decide) _).mono ?_; rintro e w' ⟨rfl, rfl⟩; rw [HI0.out]
  have hr := rest_len wNothing s
  go_wp2
  refine bodyPost_ret (v := Pr3 (.slice (some ⟨w.heap.size + 1, 0, none⟩) 1 1) (S (restP wNothing s)) (.bool true)) (by simp [results, Tryz.results42, go_sem]) rfl ⟨_, 1, rfl, ?_, by simp [Tr.size], by unfold maxLen; omega, by simp [Tr.size], by simp only; omega, ((Ext.refl _).alloc _).alloc _⟩
  exact Sl2.newAt PK PS _ _ [⟨0, 0⟩] _ _ (by simp) rfl
set_option maxHeartbeats 400000 in
theorem from_p1 (w : World) (s : List UInt8) (l : Nat) (hs : s.length ≤ 5000) (hl : l ≤ 13) (hi0 : isP wNothing s = false) (hi1 : isP wPause s = true) :
    Calls Tryz.prog 42 #[S s, I ((l : Int) + 1)] w (FromPost w (l + 1) (some (.leaf ⟨1, 0⟩, restP wPause s))) := by
  have HI0 := Lib.hid hi0; clear hi0
  have HI1 := Lib.hid hi1; clear hi1
  go_enter Tryz.func42, Tryz.ntmps42
  go_wp2_with fail
  refine wp_loop_rounds 4 ?_
  rw [rounds_succ]
  go_wp2_with fail
  refine (after_any s wNothing (by omega) (by decide) _).mono ?_; rintro e w' ⟨rfl, rfl⟩; rw [HI0.out]
  go_wp2_with fail
  rw [rounds_succ]
  go_wp2_with fail
  refine (after_any s wPause (by omega) (by decide) _).mono ?_; rintro e w' ⟨rfl, rfl⟩; rw [HI1.out]
  have hr := rest_len wPause s
  go_wp2
  refine bodyPost_ret (v := Pr3 (.slice (some ⟨w.heap.size + 1, 0, none⟩) 1 1) (S (restP wPause s)) (.bool true)) (by simp [results, Tryz.results42, go_sem]) rfl ⟨_, 1, rfl, ?_, by simp [Tr.size], by unfold maxLen; omega, by simp [Tr.size], by simp only; omega, ((Ext.refl _).alloc _).alloc _⟩
  exact Sl2.newAt PK PS _ _ [⟨1, 0⟩] _ _ (by simp) rfl
set_option maxHeartbeats 400000 in
theorem from_p2 (w : World) (s : List UInt8) (l : Nat) (hs : s.length ≤ 5000) (hl : l ≤ 13) (hi0 : isP wNothing s = false) (hi1 : isP wPause s = false) (hi2 : isP wHalt s = true) :
    Calls Tryz.prog 42 #[S s, I ((l : Int) + 1)] w (FromPost w (l + 1) (some (.leaf ⟨2, 0⟩, restP wHalt s))) := by
  have HI0 := Lib.hid hi0; clear hi0
  have HI1 := Lib.hid hi1; clear hi1
  have HI2 := Lib.hid hi2; clear hi2
  go_enter Tryz.func42, Tryz.ntmps42
  go_wp2_with fail
  refine wp_loop_rounds 4 ?_
  rw [rounds_succ]
  go_wp2_with fail
  refine (after_any s wNothing (by omega) (by decide) _).mono ?_; rintro e w' ⟨rfl, rfl⟩; rw [HI0.out]
  go_wp2_with fail
  rw [rounds_succ]
  go_wp2_with fail
  refine (after_any s wPause (by omega) (by decide) _).mono ?_; rintro e w' ⟨rfl, rfl⟩; rw [HI1.out]
  go_wp2_with fail
  rw [rounds_succ]
  go_wp2_with fail
  refine (after_any s wHalt (by omega) (by decide) _).mono ?_; rintro e w' ⟨rfl, rfl⟩; rw [HI2.out]
  have hr := rest_len wHalt s
  go_wp2
  refine bodyPost_ret (v := Pr3 (.slice (some ⟨w.heap.size + 1, 0, none⟩) 1 1) (S (restP wHalt s)) (.bool true)) (by simp [results, Tryz.results42, go_sem]) rfl ⟨_, 1, rfl, ?_, by simp [Tr.size], by unfold maxLen; omega, by simp [Tr.size], by simp only; omega, ((Ext.refl _).alloc _).alloc _⟩
  exact Sl2.newAt PK PS _ _ [⟨2, 0⟩] _ _ (by simp) rfl
set_option maxHeartbeats 400000 in
theorem from_w3_nil (w : World) (s : List UInt8) (l : Nat) (hs : s.length ≤ 5000) (hl : l ≤ 13) (hi0 : isP wNothing s = false) (hi1 : isP wPause s = false) (hi2 : isP wHalt s = false) (hi3 : isP wEmit s = true) (hq : restP wEmit s = []) :
    Calls Tryz.prog 42 #[S s, I ((l : Int) + 1)] w fun e w' => ∃ u v, e = .returned (Pr3 u v (.bool false)) ∧ Ext w w' := by
  have hr := True.intro
  have HI0 := Lib.hid hi0; clear hi0
  have HI1 := Lib.hid hi1; clear hi1
  have HI2 := Lib.hid hi2; clear hi2
  have HI3 := Lib.hid hi3; clear hi3
  have HQ' := Lib.hid hq; clear hq
  go_enter Tryz.func42, Tryz.ntmps42
  go_wp2_with fail
  refine wp_loop_rounds 4 ?_
  rw [rounds_succ]
  go_wp2_with fail
  refine (after_any s wNothing (by omega) (by decide) _).mono ?_; rintro e w' ⟨rfl, rfl⟩; rw [HI0.out]
  go_wp2_with fail
  rw [rounds_succ]
  go_wp2_with fail
  refine (after_any s wPause (by omega) (by decide) _).mono ?_; rintro e w' ⟨rfl, rfl⟩; rw [HI1.out]
  go_wp2_with fail
  rw [rounds_succ]
  go_wp2_with fail
  refine (after_any s wHalt (by omega) (by decide) _).mono ?_; rintro e w' ⟨rfl, rfl⟩; rw [HI2.out]
  go_wp2_with fail
  rw [rounds_succ]
  go_wp2_with fail
  rw [rfW_eq]
  have d0 := rfW_word w 0 _ rfl
  have d1 := rfW_word w 1 _ rfl
  have d2 := rfW_word w 2 _ rfl
  have d3 := rfW_word w 3 _ rfl
  have e0 := rfW_kind w 0 _ rfl
  have f0 := rfW_first w 0 _ rfl
  have xf := rfW_ext w
  have hsz := rfW_size w
  generalize rfW w = wf at *
  refine wp_loop_rounds 5 ?_
  rw [rounds_succ]
  go_hideQ
  go_wp2_with fail
  refine (after_any s wEmit (by omega) (by decide) _).mono ?_; rintro e w' ⟨rfl, rfl⟩; rw [HI3.out]
  rw [HQ'.out]
  go_wp2_with fail
  have F0 := Lib.hid f0
  refine wp_flow3 21 0 [isV (S []), isV (.bool true), isV (.bool true), isV undef, isV undef, isV undef, isV undef, isV undef, isV undef, isV undef, isV (.bool true), isV (.bool true), isV undef, isV undef, isV undef, isV undef, isV undef, isV undef, isV undef, isV undef, isV (.bool true)] (by kernel_rfl) rfl rfl (by kernel_rfl) (by kernel_rfl) ⟨isV_mono, isV_mono, isV_mono, isV_mono, isV_mono, isV_mono, isV_mono, isV_mono, isV_mono, isV_mono, isV_mono, isV_mono, isV_mono, isV_mono, isV_mono, isV_mono, isV_mono, isV_mono, isV_mono, isV_mono, isV_mono, trivial⟩ ?each ?rest
  case each =>
    refine .cons ?_ (.cons ?_ (.cons ?_ (.cons ?_ (.cons ?_ (.cons ?_ (.cons ?_ (.cons ?_ (.cons ?_ (.cons ?_ (.cons ?_ (.cons ?_ (.cons ?_ (.cons ?_ (.cons ?_ (.cons ?_ (.cons ?_ (.cons ?_ (.cons ?_ (.cons ?_ (.cons ?_ (.nil)))))))))))))))))))))
    · intro fa fw hx hs hb
      have s15 : fa.tmps[(15 : Nat)]? = some (S []) := (hb 15 (by kernel_rfl)).trans (by rfl)
      refine .inl ⟨wanted_free rfl, fun K hK => ?_⟩
      clear hs hb hx
      go_simp
      exact hK _ _ rfl (Ext.refl _)
    · intro fa fw hx hs hb
      obtain ⟨_, s67, rfl⟩ := hs 0 67 (by kernel_rfl) (by kernel_rfl)
      refine .inl ⟨wanted_free rfl, fun K hK => ?_⟩
      clear hs hb
      go_simp
      exact hK _ _ rfl (Ext.refl _)
    · intro fa fw hx hs hb
      obtain ⟨_, s68, rfl⟩ := hs 1 68 (by kernel_rfl) (by kernel_rfl)
      refine .inl ⟨wanted_free rfl, fun K hK => ?_⟩
      clear hs hb hx
      go_simp
      exact hK _ _ rfl (Ext.refl _)
    · intro fa fw hx hs hb
      obtain ⟨_, s69, rfl⟩ := hs 2 69 (by kernel_rfl) (by kernel_rfl)
      exact .inr ⟨wanted_no 2 false 69 rfl (by kernel_rfl) s69, rfl⟩
    · intro fa fw hx hs hb
      obtain ⟨_, s69, rfl⟩ := hs 2 69 (by kernel_rfl) (by kernel_rfl)
      exact .inr ⟨wanted_no 2 false 69 rfl (by kernel_rfl) s69, rfl⟩
    · intro fa fw hx hs hb
      obtain ⟨_, s69, rfl⟩ := hs 2 69 (by kernel_rfl) (by kernel_rfl)
      exact .inr ⟨wanted_no 2 false 69 rfl (by kernel_rfl) s69, rfl⟩
    · intro fa fw hx hs hb
      obtain ⟨_, s69, rfl⟩ := hs 2 69 (by kernel_rfl) (by kernel_rfl)
      exact .inr ⟨wanted_no 2 false 69 rfl (by kernel_rfl) s69, rfl⟩
    · intro fa fw hx hs hb
      obtain ⟨_, s69, rfl⟩ := hs 2 69 (by kernel_rfl) (by kernel_rfl)
      exact .inr ⟨wanted_no 2 false 69 rfl (by kernel_rfl) s69, rfl⟩
    · intro fa fw hx hs hb
      obtain ⟨_, s69, rfl⟩ := hs 2 69 (by kernel_rfl) (by kernel_rfl)
      exact .inr ⟨wanted_no 2 false 69 rfl (by kernel_rfl) s69, rfl⟩
    · intro fa fw hx hs hb
      obtain ⟨_, s69, rfl⟩ := hs 2 69 (by kernel_rfl) (by kernel_rfl)
      exact .inr ⟨wanted_no 2 false 69 rfl (by kernel_rfl) s69, rfl⟩
    · intro fa fw hx hs hb
      obtain ⟨_, s69, rfl⟩ := hs 2 69 (by kernel_rfl) (by kernel_rfl)
      obtain ⟨_, s76, rfl⟩ := hs 9 76 (by kernel_rfl) (by kernel_rfl)
      refine .inl ⟨wanted_free rfl, fun K hK => ?_⟩
      clear hs hb hx
      go_simp
      exact hK _ _ rfl (Ext.refl _)
    · intro fa fw hx hs hb
      obtain ⟨_, s77, rfl⟩ := hs 10 77 (by kernel_rfl) (by kernel_rfl)
      refine .inl ⟨wanted_free rfl, fun K hK => ?_⟩
      clear hs hb hx
      go_simp
      exact hK _ _ rfl (Ext.refl _)
    · intro fa fw hx hs hb
      obtain ⟨_, s78, rfl⟩ := hs 11 78 (by kernel_rfl) (by kernel_rfl)
      exact .inr ⟨wanted_no 11 false 78 rfl (by kernel_rfl) s78, rfl⟩
    · intro fa fw hx hs hb
      obtain ⟨_, s78, rfl⟩ := hs 11 78 (by kernel_rfl) (by kernel_rfl)
      exact .inr ⟨wanted_no 11 false 78 rfl (by kernel_rfl) s78, rfl⟩
    · intro fa fw hx hs hb
      obtain ⟨_, s78, rfl⟩ := hs 11 78 (by kernel_rfl) (by kernel_rfl)
      exact .inr ⟨wanted_no 11 false 78 rfl (by kernel_rfl) s78, rfl⟩
    · intro fa fw hx hs hb
      obtain ⟨_, s78, rfl⟩ := hs 11 78 (by kernel_rfl) (by kernel_rfl)
      exact .inr ⟨wanted_no 11 false 78 rfl (by kernel_rfl) s78, rfl⟩
    · intro fa fw hx hs hb
      obtain ⟨_, s78, rfl⟩ := hs 11 78 (by kernel_rfl) (by kernel_rfl)
      exact .inr ⟨wanted_no 11 false 78 rfl (by kernel_rfl) s78, rfl⟩
    · intro fa fw hx hs hb
      obtain ⟨_, s78, rfl⟩ := hs 11 78 (by kernel_rfl) (by kernel_rfl)
      exact .inr ⟨wanted_no 11 false 78 rfl (by kernel_rfl) s78, rfl⟩
    · intro fa fw hx hs hb
      obtain ⟨_, s78, rfl⟩ := hs 11 78 (by kernel_rfl) (by kernel_rfl)
      exact .inr ⟨wanted_no 11 false 78 rfl (by kernel_rfl) s78, rfl⟩
    · intro fa fw hx hs hb
      obtain ⟨_, s78, rfl⟩ := hs 11 78 (by kernel_rfl) (by kernel_rfl)
      exact .inr ⟨wanted_no 11 false 78 rfl (by kernel_rfl) s78, rfl⟩
    · intro fa fw hx hs hb
      obtain ⟨_, s78, rfl⟩ := hs 11 78 (by kernel_rfl) (by kernel_rfl)
      obtain ⟨_, s86, rfl⟩ := hs 19 86 (by kernel_rfl) (by kernel_rfl)
      refine .inl ⟨wanted_free rfl, fun K hK => ?_⟩
      clear hs hb hx
      go_simp
      exact hK _ _ rfl (Ext.refl _)
  case rest =>
    intro w2 hxw2
    rintro _ rfl
    rintro _ rfl
    rintro _ rfl
    rintro _ rfl
    rintro _ rfl
    rintro _ rfl
    rintro _ rfl
    rintro _ rfl
    rintro _ rfl
    rintro _ rfl
    rintro _ rfl
    rintro _ rfl
    rintro _ rfl
    rintro _ rfl
    rintro _ rfl
    rintro _ rfl
    rintro _ rfl
    rintro _ rfl
    rintro _ rfl
    rintro _ rfl
    rintro _ rfl
    simp only [putAll, List.take, Act.put, List.setIfInBounds_toArray, List.set_cons_zero, List.set_cons_succ]
    refine wpAny_done (by kernel_rfl) ?_ _
    go_wp2
    exact bodyPost_ret (v := Pr3 (.slice none 0 0) (S s) (.bool false)) (by simp [results, Tryz.results42, go_sem]) rfl ⟨_, _, rfl, xf.trans hxw2⟩
set_option maxHeartbeats 400000 in
theorem from_w3_lo (w : World) (s : List UInt8) (l : Nat) (hs : s.length ≤ 5000) (hl : l ≤ 13) (hi0 : isP wNothing s = false) (hi1 : isP wPause s = false) (hi2 : isP wHalt s = false) (hi3 : isP wEmit s = true) {c : UInt8} {r : List UInt8} (hq : restP wEmit s = c :: r) (hc : c.toNat < 65) :
    Calls Tryz.prog 42 #[S s, I ((l : Int) + 1)] w fun e w' => ∃ u v, e = .returned (Pr3 u v (.bool false)) ∧ Ext w w' := by
  have hr := True.intro
  have HC := Lib.hid hc; clear hc
  have HI0 := Lib.hid hi0; clear hi0
  have HI1 := Lib.hid hi1; clear hi1
  have HI2 := Lib.hid hi2; clear hi2
  have HI3 := Lib.hid hi3; clear hi3
  have HQ' := Lib.hid hq; clear hq
  go_enter Tryz.func42, Tryz.ntmps42
  go_wp2_with fail
  refine wp_loop_rounds 4 ?_
  rw [rounds_succ]
  go_wp2_with fail
  refine (after_any s wNothing (by omega) (by decide) _).mono ?_; rintro e w' ⟨rfl, rfl⟩; rw [HI0.out]
  go_wp2_with fail
  rw [rounds_succ]
  go_wp2_with fail
  refine (after_any s wPause (by omega) (by decide) _).mono ?_; rintro e w' ⟨rfl, rfl⟩; rw [HI1.out]
  go_wp2_with fail
  rw [rounds_succ]
  go_wp2_with fail
  refine (after_any s wHalt (by omega) (by decide) _).mono ?_; rintro e w' ⟨rfl, rfl⟩; rw [HI2.out]
  go_wp2_with fail
  rw [rounds_succ]
  go_wp2_with fail
  rw [rfW_eq]
  have d0 := rfW_word w 0 _ rfl
  have d1 := rfW_word w 1 _ rfl
  have d2 := rfW_word w 2 _ rfl
  have d3 := rfW_word w 3 _ rfl
  have e0 := rfW_kind w 0 _ rfl
  have f0 := rfW_first w 0 _ rfl
  have xf := rfW_ext w
  have hsz := rfW_size w
  generalize rfW w = wf at *
  refine wp_loop_rounds 5 ?_
  rw [rounds_succ]
  go_hideQ
  go_wp2_with fail
  refine (after_any s wEmit (by omega) (by decide) _).mono ?_; rintro e w' ⟨rfl, rfl⟩; rw [HI3.out]
  rw [HQ'.out]
  go_wp2_with fail
  have F0 := Lib.hid f0
  refine wp_flow3 21 0 [isV (S (c :: r)), isV (.bool false), isV (.bool false), isV (S (c :: r)), isV (.int .u8 c.toNat), isV (.slice (some ⟨w.heap.size + 1 + 1 + 1, 0, none⟩) 4 4), isV (.int .i64 0), isV (.pointer (some ⟨w.heap.size + 1 + 1 + 1, 0, none⟩)), isV (.int .u8 65), isV (.bool true), isV (.bool true), isV (.bool true), isV undef, isV undef, isV undef, isV undef, isV undef, isV undef, isV undef, isV undef, isV (.bool true)] (by kernel_rfl) rfl rfl (by kernel_rfl) (by kernel_rfl) ⟨isV_mono, isV_mono, isV_mono, isV_mono, isV_mono, isV_mono, isV_mono, isV_mono, isV_mono, isV_mono, isV_mono, isV_mono, isV_mono, isV_mono, isV_mono, isV_mono, isV_mono, isV_mono, isV_mono, isV_mono, isV_mono, trivial⟩ ?each ?rest
  case each =>
    refine .cons ?_ (.cons ?_ (.cons ?_ (.cons ?_ (.cons ?_ (.cons ?_ (.cons ?_ (.cons ?_ (.cons ?_ (.cons ?_ (.cons ?_ (.cons ?_ (.cons ?_ (.cons ?_ (.cons ?_ (.cons ?_ (.cons ?_ (.cons ?_ (.cons ?_ (.cons ?_ (.cons ?_ (.nil)))))))))))))))))))))
    · intro fa fw hx hs hb
      have s15 : fa.tmps[(15 : Nat)]? = some (S (c :: r)) := (hb 15 (by kernel_rfl)).trans (by rfl)
      refine .inl ⟨wanted_free rfl, fun K hK => ?_⟩
      clear hs hb hx
      go_simp
      exact hK _ _ rfl (Ext.refl _)
    · intro fa fw hx hs hb
      obtain ⟨_, s67, rfl⟩ := hs 0 67 (by kernel_rfl) (by kernel_rfl)
      refine .inl ⟨wanted_free rfl, fun K hK => ?_⟩
      clear hs hb
      go_simp
      exact hK _ _ rfl (Ext.refl _)
    · intro fa fw hx hs hb
      obtain ⟨_, s68, rfl⟩ := hs 1 68 (by kernel_rfl) (by kernel_rfl)
      refine .inl ⟨wanted_free rfl, fun K hK => ?_⟩
      clear hs hb hx
      go_simp
      exact hK _ _ rfl (Ext.refl _)
    · intro fa fw hx hs hb
      obtain ⟨_, s69, rfl⟩ := hs 2 69 (by kernel_rfl) (by kernel_rfl)
      have s15 : fa.tmps[(15 : Nat)]? = some (S (c :: r)) := (hb 15 (by kernel_rfl)).trans (by rfl)
      refine .inl ⟨wanted_yes 2 false 69 rfl (by kernel_rfl) s69, fun K hK => ?_⟩
      clear hs hb hx
      go_simp
      exact hK _ _ rfl (Ext.refl _)
    · intro fa fw hx hs hb
      obtain ⟨_, s69, rfl⟩ := hs 2 69 (by kernel_rfl) (by kernel_rfl)
      obtain ⟨_, s70, rfl⟩ := hs 3 70 (by kernel_rfl) (by kernel_rfl)
      refine .inl ⟨wanted_yes 2 false 69 rfl (by kernel_rfl) s69, fun K hK => ?_⟩
      clear hs hb
      go_simp
      exact hK _ _ rfl (Ext.refl _)
    · intro fa fw hx hs hb
      obtain ⟨_, s69, rfl⟩ := hs 2 69 (by kernel_rfl) (by kernel_rfl)
      have s13 : fa.tmps[(13 : Nat)]? = some (.slice (some ⟨w.heap.size + 1 + 1 + 1, 0, none⟩) 4 4) := (hb 13 (by kernel_rfl)).trans (by rfl)
      refine .inl ⟨wanted_yes 2 false 69 rfl (by kernel_rfl) s69, fun K hK => ?_⟩
      clear hs hb hx
      go_simp
      exact hK _ _ rfl (Ext.refl _)
    · intro fa fw hx hs hb
      obtain ⟨_, s69, rfl⟩ := hs 2 69 (by kernel_rfl) (by kernel_rfl)
      have s14 : fa.tmps[(14 : Nat)]? = some (.int .i64 0) := (hb 14 (by kernel_rfl)).trans (by rfl)
      refine .inl ⟨wanted_yes 2 false 69 rfl (by kernel_rfl) s69, fun K hK => ?_⟩
      clear hs hb hx
      go_simp
      exact hK _ _ rfl (Ext.refl _)
    · intro fa fw hx hs hb
      obtain ⟨_, s69, rfl⟩ := hs 2 69 (by kernel_rfl) (by kernel_rfl)
      obtain ⟨_, s72, rfl⟩ := hs 5 72 (by kernel_rfl) (by kernel_rfl)
      obtain ⟨_, s73, rfl⟩ := hs 6 73 (by kernel_rfl) (by kernel_rfl)
      refine .inl ⟨wanted_yes 2 false 69 rfl (by kernel_rfl) s69, fun K hK => ?_⟩
      clear hs hb hx
      go_simp
      exact hK _ _ rfl (Ext.refl _)
    · intro fa fw hx hs hb
      obtain ⟨_, s69, rfl⟩ := hs 2 69 (by kernel_rfl) (by kernel_rfl)
      obtain ⟨_, s74, rfl⟩ := hs 7 74 (by kernel_rfl) (by kernel_rfl)
      have c0 := hx.keeps _ _ F0.out
      refine .inl ⟨wanted_yes 2 false 69 rfl (by kernel_rfl) s69, fun K hK => ?_⟩
      clear hs hb hx
      go_simp
      exact hK _ _ rfl (Ext.refl _)
    · intro fa fw hx hs hb
      obtain ⟨_, s69, rfl⟩ := hs 2 69 (by kernel_rfl) (by kernel_rfl)
      obtain ⟨_, s71, rfl⟩ := hs 4 71 (by kernel_rfl) (by kernel_rfl)
      obtain ⟨_, s75, rfl⟩ := hs 8 75 (by kernel_rfl) (by kernel_rfl)
      refine .inl ⟨wanted_yes 2 false 69 rfl (by kernel_rfl) s69, fun K hK => ?_⟩
      clear hs hb
      have hc := HC.out
      go_simp
      refine hK _ _ (boolV (w := fw) ?_) (Ext.refl _)
      simp; omega
    · intro fa fw hx hs hb
      obtain ⟨_, s69, rfl⟩ := hs 2 69 (by kernel_rfl) (by kernel_rfl)
      obtain ⟨_, s76, rfl⟩ := hs 9 76 (by kernel_rfl) (by kernel_rfl)
      refine .inl ⟨wanted_free rfl, fun K hK => ?_⟩
      clear hs hb hx
      go_simp
      exact hK _ _ rfl (Ext.refl _)
    · intro fa fw hx hs hb
      obtain ⟨_, s77, rfl⟩ := hs 10 77 (by kernel_rfl) (by kernel_rfl)
      refine .inl ⟨wanted_free rfl, fun K hK => ?_⟩
      clear hs hb hx
      go_simp
      exact hK _ _ rfl (Ext.refl _)
    · intro fa fw hx hs hb
      obtain ⟨_, s78, rfl⟩ := hs 11 78 (by kernel_rfl) (by kernel_rfl)
      exact .inr ⟨wanted_no 11 false 78 rfl (by kernel_rfl) s78, rfl⟩
    · intro fa fw hx hs hb
      obtain ⟨_, s78, rfl⟩ := hs 11 78 (by kernel_rfl) (by kernel_rfl)
      exact .inr ⟨wanted_no 11 false 78 rfl (by kernel_rfl) s78, rfl⟩
    · intro fa fw hx hs hb
      obtain ⟨_, s78, rfl⟩ := hs 11 78 (by kernel_rfl) (by kernel_rfl)
      exact .inr ⟨wanted_no 11 false 78 rfl (by kernel_rfl) s78, rfl⟩
    · intro fa fw hx hs hb
      obtain ⟨_, s78, rfl⟩ := hs 11 78 (by kernel_rfl) (by kernel_rfl)
      exact .inr ⟨wanted_no 11 false 78 rfl (by kernel_rfl) s78, rfl⟩
    · intro fa fw hx hs hb
      obtain ⟨_, s78, rfl⟩ := hs 11 78 (by kernel_rfl) (by kernel_rfl)
      exact .inr ⟨wanted_no 11 false 78 rfl (by kernel_rfl) s78, rfl⟩
    · intro fa fw hx hs hb
      obtain ⟨_, s78, rfl⟩ := hs 11 78 (by kernel_rfl) (by kernel_rfl)
      exact .inr ⟨wanted_no 11 false 78 rfl (by kernel_rfl) s78, rfl⟩
    · intro fa fw hx hs hb
      obtain ⟨_, s78, rfl⟩ := hs 11 78 (by kernel_rfl) (by kernel_rfl)
      exact .inr ⟨wanted_no 11 false 78 rfl (by kernel_rfl) s78, rfl⟩
    · intro fa fw hx hs hb
      obtain ⟨_, s78, rfl⟩ := hs 11 78 (by kernel_rfl) (by kernel_rfl)
      exact .inr ⟨wanted_no 11 false 78 rfl (by kernel_rfl) s78, rfl⟩
    · intro fa fw hx hs hb
      obtain ⟨_, s78, rfl⟩ := hs 11 78 (by kernel_rfl) (by kernel_rfl)
      obtain ⟨_, s86, rfl⟩ := hs 19 86 (by kernel_rfl) (by kernel_rfl)
      refine .inl ⟨wanted_free rfl, fun K hK => ?_⟩
      clear hs hb hx
      go_simp
      exact hK _ _ rfl (Ext.refl _)
  case rest =>
    intro w2 hxw2
    rintro _ rfl
    rintro _ rfl
    rintro _ rfl
    rintro _ rfl
    rintro _ rfl
    rintro _ rfl
    rintro _ rfl
    rintro _ rfl
    rintro _ rfl
    rintro _ rfl
    rintro _ rfl
    rintro _ rfl
    rintro _ rfl
    rintro _ rfl
    rintro _ rfl
    rintro _ rfl
    rintro _ rfl
    rintro _ rfl
    rintro _ rfl
    rintro _ rfl
    rintro _ rfl
    simp only [putAll, List.take, Act.put, List.setIfInBounds_toArray, List.set_cons_zero, List.set_cons_succ]
    refine wpAny_done (by kernel_rfl) ?_ _
    go_wp2
    exact bodyPost_ret (v := Pr3 (.slice none 0 0) (S s) (.bool false)) (by simp [results, Tryz.results42, go_sem]) rfl ⟨_, _, rfl, xf.trans hxw2⟩
set_option maxHeartbeats 400000 in
theorem from_w3_hi (w : World) (s : List UInt8) (l : Nat) (hs : s.length ≤ 5000) (hl : l ≤ 13) (hi0 : isP wNothing s = false) (hi1 : isP wPause s = false) (hi2 : isP wHalt s = false) (hi3 : isP wEmit s = true) {c : UInt8} {r : List UInt8} (hq : restP wEmit s = c :: r) (hc : 67 < c.toNat) :
    Calls Tryz.prog 42 #[S s, I ((l : Int) + 1)] w fun e w' => ∃ u v, e = .returned (Pr3 u v (.bool false)) ∧ Ext w w' := by
  have hr := True.intro
  have HC := Lib.hid hc; clear hc
  have HI0 := Lib.hid hi0; clear hi0
  have HI1 := Lib.hid hi1; clear hi1
  have HI2 := Lib.hid hi2; clear hi2
  have HI3 := Lib.hid hi3; clear hi3
  have HQ' := Lib.hid hq; clear hq
  go_enter Tryz.func42, Tryz.ntmps42
  go_wp2_with fail
  refine wp_loop_rounds 4 ?_
  rw [rounds_succ]
  go_wp2_with fail
  refine (after_any s wNothing (by omega) (by decide) _).mono ?_; rintro e w' ⟨rfl, rfl⟩; rw [HI0.out]
  go_wp2_with fail
  rw [rounds_succ]
  go_wp2_with fail
  refine (after_any s wPause (by omega) (by decide) _).mono ?_; rintro e w' ⟨rfl, rfl⟩; rw [HI1.out]
  go_wp2_with fail
  rw [rounds_succ]
  go_wp2_with fail
  refine (after_any s wHalt (by omega) (by decide) _).mono ?_; rintro e w' ⟨rfl, rfl⟩; rw [HI2.out]
  go_wp2_with fail
  rw [rounds_succ]
  go_wp2_with fail
  rw [rfW_eq]
  have d0 := rfW_word w 0 _ rfl
  have d1 := rfW_word w 1 _ rfl
  have d2 := rfW_word w 2 _ rfl
  have d3 := rfW_word w 3 _ rfl
  have e0 := rfW_kind w 0 _ rfl
  have f0 := rfW_first w 0 _ rfl
  have xf := rfW_ext w
  have hsz := rfW_size w
  generalize rfW w = wf at *
  refine wp_loop_rounds 5 ?_
  rw [rounds_succ]
  go_hideQ
  go_wp2_with fail
  refine (after_any s wEmit (by omega) (by decide) _).mono ?_; rintro e w' ⟨rfl, rfl⟩; rw [HI3.out]
  rw [HQ'.out]
  go_wp2_with fail
  have F0 := Lib.hid f0
  refine wp_flow3 21 0 [isV (S (c :: r)), isV (.bool false), isV (.bool false), isV (S (c :: r)), isV (.int .u8 c.toNat), isV (.slice (some ⟨w.heap.size + 1 + 1 + 1, 0, none⟩) 4 4), isV (.int .i64 0), isV (.pointer (some ⟨w.heap.size + 1 + 1 + 1, 0, none⟩)), isV (.int .u8 65), isV (.bool false), isV (.bool false), isV (.bool false), isV (S (c :: r)), isV (.int .u8 c.toNat), isV (.slice (some ⟨w.heap.size + 1 + 1 + 1, 0, none⟩) 4 4), isV (.int .i64 0), isV (.pointer (some ⟨w.heap.size + 1 + 1 + 1, 0, none⟩)), isV (.int .u8 65), isV (.int .u8 67), isV (.bool true), isV (.bool true)] (by kernel_rfl) rfl rfl (by kernel_rfl) (by kernel_rfl) ⟨isV_mono, isV_mono, isV_mono, isV_mono, isV_mono, isV_mono, isV_mono, isV_mono, isV_mono, isV_mono, isV_mono, isV_mono, isV_mono, isV_mono, isV_mono, isV_mono, isV_mono, isV_mono, isV_mono, isV_mono, isV_mono, trivial⟩ ?each ?rest
  case each =>
    refine .cons ?_ (.cons ?_ (.cons ?_ (.cons ?_ (.cons ?_ (.cons ?_ (.cons ?_ (.cons ?_ (.cons ?_ (.cons ?_ (.cons ?_ (.cons ?_ (.cons ?_ (.cons ?_ (.cons ?_ (.cons ?_ (.cons ?_ (.cons ?_ (.cons ?_ (.cons ?_ (.cons ?_ (.nil)))))))))))))))))))))
    · intro fa fw hx hs hb
      have s15 : fa.tmps[(15 : Nat)]? = some (S (c :: r)) := (hb 15 (by kernel_rfl)).trans (by rfl)
      refine .inl ⟨wanted_free rfl, fun K hK => ?_⟩
      clear hs hb hx
      go_simp
      exact hK _ _ rfl (Ext.refl _)
    · intro fa fw hx hs hb
      obtain ⟨_, s67, rfl⟩ := hs 0 67 (by kernel_rfl) (by kernel_rfl)
      refine .inl ⟨wanted_free rfl, fun K hK => ?_⟩
      clear hs hb
      go_simp
      exact hK _ _ rfl (Ext.refl _)
    · intro fa fw hx hs hb
      obtain ⟨_, s68, rfl⟩ := hs 1 68 (by kernel_rfl) (by kernel_rfl)
      refine .inl ⟨wanted_free rfl, fun K hK => ?_⟩
      clear hs hb hx
      go_simp
      exact hK _ _ rfl (Ext.refl _)
    · intro fa fw hx hs hb
      obtain ⟨_, s69, rfl⟩ := hs 2 69 (by kernel_rfl) (by kernel_rfl)
      have s15 : fa.tmps[(15 : Nat)]? = some (S (c :: r)) := (hb 15 (by kernel_rfl)).trans (by rfl)
      refine .inl ⟨wanted_yes 2 false 69 rfl (by kernel_rfl) s69, fun K hK => ?_⟩
      clear hs hb hx
      go_simp
      exact hK _ _ rfl (Ext.refl _)
    · intro fa fw hx hs hb
      obtain ⟨_, s69, rfl⟩ := hs 2 69 (by kernel_rfl) (by kernel_rfl)
      obtain ⟨_, s70, rfl⟩ := hs 3 70 (by kernel_rfl) (by kernel_rfl)
      refine .inl ⟨wanted_yes 2 false 69 rfl (by kernel_rfl) s69, fun K hK => ?_⟩
      clear hs hb
      go_simp
      exact hK _ _ rfl (Ext.refl _)
    · intro fa fw hx hs hb
      obtain ⟨_, s69, rfl⟩ := hs 2 69 (by kernel_rfl) (by kernel_rfl)
      have s13 : fa.tmps[(13 : Nat)]? = some (.slice (some ⟨w.heap.size + 1 + 1 + 1, 0, none⟩) 4 4) := (hb 13 (by kernel_rfl)).trans (by rfl)
      refine .inl ⟨wanted_yes 2 false 69 rfl (by kernel_rfl) s69, fun K hK => ?_⟩
      clear hs hb hx
      go_simp
      exact hK _ _ rfl (Ext.refl _)
    · intro fa fw hx hs hb
      obtain ⟨_, s69, rfl⟩ := hs 2 69 (by kernel_rfl) (by kernel_rfl)
      have s14 : fa.tmps[(14 : Nat)]? = some (.int .i64 0) := (hb 14 (by kernel_rfl)).trans (by rfl)
      refine .inl ⟨wanted_yes 2 false 69 rfl (by kernel_rfl) s69, fun K hK => ?_⟩
      clear hs hb hx
      go_simp
      exact hK _ _ rfl (Ext.refl _)
    · intro fa fw hx hs hb
      obtain ⟨_, s69, rfl⟩ := hs 2 69 (by kernel_rfl) (by kernel_rfl)
      obtain ⟨_, s72, rfl⟩ := hs 5 72 (by kernel_rfl) (by kernel_rfl)
      obtain ⟨_, s73, rfl⟩ := hs 6 73 (by kernel_rfl) (by kernel_rfl)
      refine .inl ⟨wanted_yes 2 false 69 rfl (by kernel_rfl) s69, fun K hK => ?_⟩
      clear hs hb hx
      go_simp
      exact hK _ _ rfl (Ext.refl _)
    · intro fa fw hx hs hb
      obtain ⟨_, s69, rfl⟩ := hs 2 69 (by kernel_rfl) (by kernel_rfl)
      obtain ⟨_, s74, rfl⟩ := hs 7 74 (by kernel_rfl) (by kernel_rfl)
      have c0 := hx.keeps _ _ F0.out
      refine .inl ⟨wanted_yes 2 false 69 rfl (by kernel_rfl) s69, fun K hK => ?_⟩
      clear hs hb hx
      go_simp
      exact hK _ _ rfl (Ext.refl _)
    · intro fa fw hx hs hb
      obtain ⟨_, s69, rfl⟩ := hs 2 69 (by kernel_rfl) (by kernel_rfl)
      obtain ⟨_, s71, rfl⟩ := hs 4 71 (by kernel_rfl) (by kernel_rfl)
      obtain ⟨_, s75, rfl⟩ := hs 8 75 (by kernel_rfl) (by kernel_rfl)
      refine .inl ⟨wanted_yes 2 false 69 rfl (by kernel_rfl) s69, fun K hK => ?_⟩
      clear hs hb
      have hc := HC.out
      go_simp
      refine hK _ _ (boolV (w := fw) ?_) (Ext.refl _)
      simp; omega
    · intro fa fw hx hs hb
      obtain ⟨_, s69, rfl⟩ := hs 2 69 (by kernel_rfl) (by kernel_rfl)
      obtain ⟨_, s76, rfl⟩ := hs 9 76 (by kernel_rfl) (by kernel_rfl)
      refine .inl ⟨wanted_free rfl, fun K hK => ?_⟩
      clear hs hb hx
      go_simp
      exact hK _ _ rfl (Ext.refl _)
    · intro fa fw hx hs hb
      obtain ⟨_, s77, rfl⟩ := hs 10 77 (by kernel_rfl) (by kernel_rfl)
      refine .inl ⟨wanted_free rfl, fun K hK => ?_⟩
      clear hs hb hx
      go_simp
      exact hK _ _ rfl (Ext.refl _)
    · intro fa fw hx hs hb
      obtain ⟨_, s78, rfl⟩ := hs 11 78 (by kernel_rfl) (by kernel_rfl)
      have s15 : fa.tmps[(15 : Nat)]? = some (S (c :: r)) := (hb 15 (by kernel_rfl)).trans (by rfl)
      refine .inl ⟨wanted_yes 11 false 78 rfl (by kernel_rfl) s78, fun K hK => ?_⟩
      clear hs hb hx
      go_simp
      exact hK _ _ rfl (Ext.refl _)
    · intro fa fw hx hs hb
      obtain ⟨_, s78, rfl⟩ := hs 11 78 (by kernel_rfl) (by kernel_rfl)
      obtain ⟨_, s79, rfl⟩ := hs 12 79 (by kernel_rfl) (by kernel_rfl)
      refine .inl ⟨wanted_yes 11 false 78 rfl (by kernel_rfl) s78, fun K hK => ?_⟩
      clear hs hb
      go_simp
      exact hK _ _ rfl (Ext.refl _)
    · intro fa fw hx hs hb
      obtain ⟨_, s78, rfl⟩ := hs 11 78 (by kernel_rfl) (by kernel_rfl)
      have s13 : fa.tmps[(13 : Nat)]? = some (.slice (some ⟨w.heap.size + 1 + 1 + 1, 0, none⟩) 4 4) := (hb 13 (by kernel_rfl)).trans (by rfl)
      refine .inl ⟨wanted_yes 11 false 78 rfl (by kernel_rfl) s78, fun K hK => ?_⟩
      clear hs hb hx
      go_simp
      exact hK _ _ rfl (Ext.refl _)
    · intro fa fw hx hs hb
      obtain ⟨_, s78, rfl⟩ := hs 11 78 (by kernel_rfl) (by kernel_rfl)
      have s14 : fa.tmps[(14 : Nat)]? = some (.int .i64 0) := (hb 14 (by kernel_rfl)).trans (by rfl)
      refine .inl ⟨wanted_yes 11 false 78 rfl (by kernel_rfl) s78, fun K hK => ?_⟩
      clear hs hb hx
      go_simp
      exact hK _ _ rfl (Ext.refl _)
    · intro fa fw hx hs hb
      obtain ⟨_, s78, rfl⟩ := hs 11 78 (by kernel_rfl) (by kernel_rfl)
      obtain ⟨_, s81, rfl⟩ := hs 14 81 (by kernel_rfl) (by kernel_rfl)
      obtain ⟨_, s82, rfl⟩ := hs 15 82 (by kernel_rfl) (by kernel_rfl)
      refine .inl ⟨wanted_yes 11 false 78 rfl (by kernel_rfl) s78, fun K hK => ?_⟩
      clear hs hb hx
      go_simp
      exact hK _ _ rfl (Ext.refl _)
    · intro fa fw hx hs hb
      obtain ⟨_, s78, rfl⟩ := hs 11 78 (by kernel_rfl) (by kernel_rfl)
      obtain ⟨_, s83, rfl⟩ := hs 16 83 (by kernel_rfl) (by kernel_rfl)
      have c0 := hx.keeps _ _ F0.out
      refine .inl ⟨wanted_yes 11 false 78 rfl (by kernel_rfl) s78, fun K hK => ?_⟩
      clear hs hb hx
      go_simp
      exact hK _ _ rfl (Ext.refl _)
    · intro fa fw hx hs hb
      obtain ⟨_, s78, rfl⟩ := hs 11 78 (by kernel_rfl) (by kernel_rfl)
      obtain ⟨_, s84, rfl⟩ := hs 17 84 (by kernel_rfl) (by kernel_rfl)
      refine .inl ⟨wanted_yes 11 false 78 rfl (by kernel_rfl) s78, fun K hK => ?_⟩
      clear hs hb
      go_simp
      exact hK _ _ rfl (Ext.refl _)
    · intro fa fw hx hs hb
      obtain ⟨_, s78, rfl⟩ := hs 11 78 (by kernel_rfl) (by kernel_rfl)
      obtain ⟨_, s80, rfl⟩ := hs 13 80 (by kernel_rfl) (by kernel_rfl)
      obtain ⟨_, s85, rfl⟩ := hs 18 85 (by kernel_rfl) (by kernel_rfl)
      refine .inl ⟨wanted_yes 11 false 78 rfl (by kernel_rfl) s78, fun K hK => ?_⟩
      clear hs hb
      have hc := HC.out
      go_simp
      refine hK _ _ (boolV (w := fw) ?_) (Ext.refl _)
      simp; omega
    · intro fa fw hx hs hb
      obtain ⟨_, s78, rfl⟩ := hs 11 78 (by kernel_rfl) (by kernel_rfl)
      obtain ⟨_, s86, rfl⟩ := hs 19 86 (by kernel_rfl) (by kernel_rfl)
      refine .inl ⟨wanted_free rfl, fun K hK => ?_⟩
      clear hs hb hx
      go_simp
      exact hK _ _ rfl (Ext.refl _)
  case rest =>
    intro w2 hxw2
    rintro _ rfl
    rintro _ rfl
    rintro _ rfl
    rintro _ rfl
    rintro _ rfl
    rintro _ rfl
    rintro _ rfl
    rintro _ rfl
    rintro _ rfl
    rintro _ rfl
    rintro _ rfl
    rintro _ rfl
    rintro _ rfl
    rintro _ rfl
    rintro _ rfl
    rintro _ rfl
    rintro _ rfl
    rintro _ rfl
    rintro _ rfl
    rintro _ rfl
    rintro _ rfl
    simp only [putAll, List.take, Act.put, List.setIfInBounds_toArray, List.set_cons_zero, List.set_cons_succ]
    refine wpAny_done (by kernel_rfl) ?_ _
    go_wp2
    exact bodyPost_ret (v := Pr3 (.slice none 0 0) (S s) (.bool false)) (by simp [results, Tryz.results42, go_sem]) rfl ⟨_, _, rfl, xf.trans hxw2⟩
set_option maxHeartbeats 400000 in
theorem from_w3_0 (w : World) (s : List UInt8) (l : Nat) (hs : s.length ≤ 5000) (hl : l ≤ 13) (hi0 : isP wNothing s = false) (hi1 : isP wPause s = false) (hi2 : isP wHalt s = false) (hi3 : isP wEmit s = true) {r : List UInt8} (hq : restP wEmit s = 65 :: r) :
    Calls Tryz.prog 42 #[S s, I ((l : Int) + 1)] w (FromPost w (l + 1) (some (.leaf ⟨3, 0⟩, r))) := by
  have HI0 := Lib.hid hi0; clear hi0
  have HI1 := Lib.hid hi1; clear hi1
  have HI2 := Lib.hid hi2; clear hi2
  have HI3 := Lib.hid hi3; clear hi3
  have HQ' := Lib.hid hq; clear hq
  go_enter Tryz.func42, Tryz.ntmps42
  go_wp2_with fail
  refine wp_loop_rounds 4 ?_
  rw [rounds_succ]
  go_wp2_with fail
  refine (after_any s wNothing (by omega) (by decide) _).mono ?_; rintro e w' ⟨rfl, rfl⟩; rw [HI0.out]
  go_wp2_with fail
  rw [rounds_succ]
  go_wp2_with fail
  refine (after_any s wPause (by omega) (by decide) _).mono ?_; rintro e w' ⟨rfl, rfl⟩; rw [HI1.out]
  go_wp2_with fail
  rw [rounds_succ]
  go_wp2_with fail
  refine (after_any s wHalt (by omega) (by decide) _).mono ?_; rintro e w' ⟨rfl, rfl⟩; rw [HI2.out]
  go_wp2_with fail
  rw [rounds_succ]
  go_wp2_with fail
  rw [rfW_eq]
  have d0 := rfW_word w 0 _ rfl
  have d1 := rfW_word w 1 _ rfl
  have d2 := rfW_word w 2 _ rfl
  have d3 := rfW_word w 3 _ rfl
  have e0 := rfW_kind w 0 _ rfl
  have f0 := rfW_first w 0 _ rfl
  have xf := rfW_ext w
  have hsz := rfW_size w
  generalize rfW w = wf at *
  refine wp_loop_rounds 5 ?_
  rw [rounds_succ]
  go_hideQ
  go_wp2_with fail
  refine (after_any s wEmit (by omega) (by decide) _).mono ?_; rintro e w' ⟨rfl, rfl⟩; rw [HI3.out]
  rw [HQ'.out]
  go_wp2_with fail
  have F0 := Lib.hid f0
  refine wp_flow3 21 0 [isV (S (65 :: r)), isV (.bool false), isV (.bool false), isV (S (65 :: r)), isV (.int .u8 65), isV (.slice (some ⟨w.heap.size + 1 + 1 + 1, 0, none⟩) 4 4), isV (.int .i64 0), isV (.pointer (some ⟨w.heap.size + 1 + 1 + 1, 0, none⟩)), isV (.int .u8 65), isV (.bool false), isV (.bool false), isV (.bool false), isV (S (65 :: r)), isV (.int .u8 65), isV (.slice (some ⟨w.heap.size + 1 + 1 + 1, 0, none⟩) 4 4), isV (.int .i64 0), isV (.pointer (some ⟨w.heap.size + 1 + 1 + 1, 0, none⟩)), isV (.int .u8 65), isV (.int .u8 67), isV (.bool false), isV (.bool false)] (by kernel_rfl) rfl rfl (by kernel_rfl) (by kernel_rfl) ⟨isV_mono, isV_mono, isV_mono, isV_mono, isV_mono, isV_mono, isV_mono, isV_mono, isV_mono, isV_mono, isV_mono, isV_mono, isV_mono, isV_mono, isV_mono, isV_mono, isV_mono, isV_mono, isV_mono, isV_mono, isV_mono, trivial⟩ ?each ?rest
  case each =>
    refine .cons ?_ (.cons ?_ (.cons ?_ (.cons ?_ (.cons ?_ (.cons ?_ (.cons ?_ (.cons ?_ (.cons ?_ (.cons ?_ (.cons ?_ (.cons ?_ (.cons ?_ (.cons ?_ (.cons ?_ (.cons ?_ (.cons ?_ (.cons ?_ (.cons ?_ (.cons ?_ (.cons ?_ (.nil)))))))))))))))))))))
    · intro fa fw hx hs hb
      have s15 : fa.tmps[(15 : Nat)]? = some (S (65 :: r)) := (hb 15 (by kernel_rfl)).trans (by rfl)
      refine .inl ⟨wanted_free rfl, fun K hK => ?_⟩
      clear hs hb hx
      go_simp
      exact hK _ _ rfl (Ext.refl _)
    · intro fa fw hx hs hb
      obtain ⟨_, s67, rfl⟩ := hs 0 67 (by kernel_rfl) (by kernel_rfl)
      refine .inl ⟨wanted_free rfl, fun K hK => ?_⟩
      clear hs hb
      go_simp
      exact hK _ _ rfl (Ext.refl _)
    · intro fa fw hx hs hb
      obtain ⟨_, s68, rfl⟩ := hs 1 68 (by kernel_rfl) (by kernel_rfl)
      refine .inl ⟨wanted_free rfl, fun K hK => ?_⟩
      clear hs hb hx
      go_simp
      exact hK _ _ rfl (Ext.refl _)
    · intro fa fw hx hs hb
      obtain ⟨_, s69, rfl⟩ := hs 2 69 (by kernel_rfl) (by kernel_rfl)
      have s15 : fa.tmps[(15 : Nat)]? = some (S (65 :: r)) := (hb 15 (by kernel_rfl)).trans (by rfl)
      refine .inl ⟨wanted_yes 2 false 69 rfl (by kernel_rfl) s69, fun K hK => ?_⟩
      clear hs hb hx
      go_simp
      exact hK _ _ rfl (Ext.refl _)
    · intro fa fw hx hs hb
      obtain ⟨_, s69, rfl⟩ := hs 2 69 (by kernel_rfl) (by kernel_rfl)
      obtain ⟨_, s70, rfl⟩ := hs 3 70 (by kernel_rfl) (by kernel_rfl)
      refine .inl ⟨wanted_yes 2 false 69 rfl (by kernel_rfl) s69, fun K hK => ?_⟩
      clear hs hb
      go_simp
      exact hK _ _ rfl (Ext.refl _)
    · intro fa fw hx hs hb
      obtain ⟨_, s69, rfl⟩ := hs 2 69 (by kernel_rfl) (by kernel_rfl)
      have s13 : fa.tmps[(13 : Nat)]? = some (.slice (some ⟨w.heap.size + 1 + 1 + 1, 0, none⟩) 4 4) := (hb 13 (by kernel_rfl)).trans (by rfl)
      refine .inl ⟨wanted_yes 2 false 69 rfl (by kernel_rfl) s69, fun K hK => ?_⟩
      clear hs hb hx
      go_simp
      exact hK _ _ rfl (Ext.refl _)
    · intro fa fw hx hs hb
      obtain ⟨_, s69, rfl⟩ := hs 2 69 (by kernel_rfl) (by kernel_rfl)
      have s14 : fa.tmps[(14 : Nat)]? = some (.int .i64 0) := (hb 14 (by kernel_rfl)).trans (by rfl)
      refine .inl ⟨wanted_yes 2 false 69 rfl (by kernel_rfl) s69, fun K hK => ?_⟩
      clear hs hb hx
      go_simp
      exact hK _ _ rfl (Ext.refl _)
    · intro fa fw hx hs hb
      obtain ⟨_, s69, rfl⟩ := hs 2 69 (by kernel_rfl) (by kernel_rfl)
      obtain ⟨_, s72, rfl⟩ := hs 5 72 (by kernel_rfl) (by kernel_rfl)
      obtain ⟨_, s73, rfl⟩ := hs 6 73 (by kernel_rfl) (by kernel_rfl)
      refine .inl ⟨wanted_yes 2 false 69 rfl (by kernel_rfl) s69, fun K hK => ?_⟩
      clear hs hb hx
      go_simp
      exact hK _ _ rfl (Ext.refl _)
    · intro fa fw hx hs hb
      obtain ⟨_, s69, rfl⟩ := hs 2 69 (by kernel_rfl) (by kernel_rfl)
      obtain ⟨_, s74, rfl⟩ := hs 7 74 (by kernel_rfl) (by kernel_rfl)
      have c0 := hx.keeps _ _ F0.out
      refine .inl ⟨wanted_yes 2 false 69 rfl (by kernel_rfl) s69, fun K hK => ?_⟩
      clear hs hb hx
      go_simp
      exact hK _ _ rfl (Ext.refl _)
    · intro fa fw hx hs hb
      obtain ⟨_, s69, rfl⟩ := hs 2 69 (by kernel_rfl) (by kernel_rfl)
      obtain ⟨_, s71, rfl⟩ := hs 4 71 (by kernel_rfl) (by kernel_rfl)
      obtain ⟨_, s75, rfl⟩ := hs 8 75 (by kernel_rfl) (by kernel_rfl)
      refine .inl ⟨wanted_yes 2 false 69 rfl (by kernel_rfl) s69, fun K hK => ?_⟩
      clear hs hb
      go_simp
      exact hK _ _ rfl (Ext.refl _)
    · intro fa fw hx hs hb
      obtain ⟨_, s69, rfl⟩ := hs 2 69 (by kernel_rfl) (by kernel_rfl)
      obtain ⟨_, s76, rfl⟩ := hs 9 76 (by kernel_rfl) (by kernel_rfl)
      refine .inl ⟨wanted_free rfl, fun K hK => ?_⟩
      clear hs hb hx
      go_simp
      exact hK _ _ rfl (Ext.refl _)
    · intro fa fw hx hs hb
      obtain ⟨_, s77, rfl⟩ := hs 10 77 (by kernel_rfl) (by kernel_rfl)
      refine .inl ⟨wanted_free rfl, fun K hK => ?_⟩
      clear hs hb hx
      go_simp
      exact hK _ _ rfl (Ext.refl _)
    · intro fa fw hx hs hb
      obtain ⟨_, s78, rfl⟩ := hs 11 78 (by kernel_rfl) (by kernel_rfl)
      have s15 : fa.tmps[(15 : Nat)]? = some (S (65 :: r)) := (hb 15 (by kernel_rfl)).trans (by rfl)
      refine .inl ⟨wanted_yes 11 false 78 rfl (by kernel_rfl) s78, fun K hK => ?_⟩
      clear hs hb hx
      go_simp
      exact hK _ _ rfl (Ext.refl _)
    · intro fa fw hx hs hb
      obtain ⟨_, s78, rfl⟩ := hs 11 78 (by kernel_rfl) (by kernel_rfl)
      obtain ⟨_, s79, rfl⟩ := hs 12 79 (by kernel_rfl) (by kernel_rfl)
      refine .inl ⟨wanted_yes 11 false 78 rfl (by kernel_rfl) s78, fun K hK => ?_⟩
      clear hs hb
      go_simp
      exact hK _ _ rfl (Ext.refl _)
    · intro fa fw hx hs hb
      obtain ⟨_, s78, rfl⟩ := hs 11 78 (by kernel_rfl) (by kernel_rfl)
      have s13 : fa.tmps[(13 : Nat)]? = some (.slice (some ⟨w.heap.size + 1 + 1 + 1, 0, none⟩) 4 4) := (hb 13 (by kernel_rfl)).trans (by rfl)
      refine .inl ⟨wanted_yes 11 false 78 rfl (by kernel_rfl) s78, fun K hK => ?_⟩
      clear hs hb hx
      go_simp
      exact hK _ _ rfl (Ext.refl _)
    · intro fa fw hx hs hb
      obtain ⟨_, s78, rfl⟩ := hs 11 78 (by kernel_rfl) (by kernel_rfl)
      have s14 : fa.tmps[(14 : Nat)]? = some (.int .i64 0) := (hb 14 (by kernel_rfl)).trans (by rfl)
      refine .inl ⟨wanted_yes 11 false 78 rfl (by kernel_rfl) s78, fun K hK => ?_⟩
      clear hs hb hx
      go_simp
      exact hK _ _ rfl (Ext.refl _)
    · intro fa fw hx hs hb
      obtain ⟨_, s78, rfl⟩ := hs 11 78 (by kernel_rfl) (by kernel_rfl)
      obtain ⟨_, s81, rfl⟩ := hs 14 81 (by kernel_rfl) (by kernel_rfl)
      obtain ⟨_, s82, rfl⟩ := hs 15 82 (by kernel_rfl) (by kernel_rfl)
      refine .inl ⟨wanted_yes 11 false 78 rfl (by kernel_rfl) s78, fun K hK => ?_⟩
      clear hs hb hx
      go_simp
      exact hK _ _ rfl (Ext.refl _)
    · intro fa fw hx hs hb
      obtain ⟨_, s78, rfl⟩ := hs 11 78 (by kernel_rfl) (by kernel_rfl)
      obtain ⟨_, s83, rfl⟩ := hs 16 83 (by kernel_rfl) (by kernel_rfl)
      have c0 := hx.keeps _ _ F0.out
      refine .inl ⟨wanted_yes 11 false 78 rfl (by kernel_rfl) s78, fun K hK => ?_⟩
      clear hs hb hx
      go_simp
      exact hK _ _ rfl (Ext.refl _)
    · intro fa fw hx hs hb
      obtain ⟨_, s78, rfl⟩ := hs 11 78 (by kernel_rfl) (by kernel_rfl)
      obtain ⟨_, s84, rfl⟩ := hs 17 84 (by kernel_rfl) (by kernel_rfl)
      refine .inl ⟨wanted_yes 11 false 78 rfl (by kernel_rfl) s78, fun K hK => ?_⟩
      clear hs hb
      go_simp
      exact hK _ _ rfl (Ext.refl _)
    · intro fa fw hx hs hb
      obtain ⟨_, s78, rfl⟩ := hs 11 78 (by kernel_rfl) (by kernel_rfl)
      obtain ⟨_, s80, rfl⟩ := hs 13 80 (by kernel_rfl) (by kernel_rfl)
      obtain ⟨_, s85, rfl⟩ := hs 18 85 (by kernel_rfl) (by kernel_rfl)
      refine .inl ⟨wanted_yes 11 false 78 rfl (by kernel_rfl) s78, fun K hK => ?_⟩
      clear hs hb
      go_simp
      exact hK _ _ rfl (Ext.refl _)
    · intro fa fw hx hs hb
      obtain ⟨_, s78, rfl⟩ := hs 11 78 (by kernel_rfl) (by kernel_rfl)
      obtain ⟨_, s86, rfl⟩ := hs 19 86 (by kernel_rfl) (by kernel_rfl)
      refine .inl ⟨wanted_free rfl, fun K hK => ?_⟩
      clear hs hb hx
      go_simp
      exact hK _ _ rfl (Ext.refl _)
  case rest =>
    intro w2 hxw2
    rintro _ rfl
    rintro _ rfl
    rintro _ rfl
    rintro _ rfl
    rintro _ rfl
    rintro _ rfl
    rintro _ rfl
    rintro _ rfl
    rintro _ rfl
    rintro _ rfl
    rintro _ rfl
    rintro _ rfl
    rintro _ rfl
    rintro _ rfl
    rintro _ rfl
    rintro _ rfl
    rintro _ rfl
    rintro _ rfl
    rintro _ rfl
    rintro _ rfl
    rintro _ rfl
    simp only [putAll, List.take, Act.put, List.setIfInBounds_toArray, List.set_cons_zero, List.set_cons_succ]
    refine wpAny_done (by kernel_rfl) ?_ _
    go_wp2_with fail
    have F1 := Lib.hid (hxw2.keeps _ _ F0.out); have E1 := Lib.hid (hxw2.keeps _ _ e0)
    refine wp_flow3 14 1 [isV (.slice (some ⟨w.heap.size + 1 + 1, 0, none⟩) 4 4), isV (.int .i64 0), isV (.pointer (some ⟨w.heap.size + 1 + 1, 0, none⟩)), isV (.int .i64 3), isV (S (65 :: r)), isV (.int .u8 65), isV (.slice (some ⟨w.heap.size + 1 + 1 + 1, 0, none⟩) 4 4), isV (.int .i64 0), isV (.pointer (some ⟨w.heap.size + 1 + 1 + 1, 0, none⟩)), isV (.int .u8 65), isV (.int .u8 0), isV (.int .i64 0), isV (.agg #[.int .i64 3, .int .i64 0]), fun v w => ∃ b, v = .pointer (some ⟨b, 0, none⟩) ∧ w2.heap.size ≤ b ∧ w.cell? ⟨b, 0, none⟩ = some (I 0) ∧ w.cell? ⟨b, 1, none⟩ = some (I 0) ∧ w.frozen? ⟨b, 0, none⟩ = false ∧ w.frozen? ⟨b, 1, none⟩ = false] (by kernel_rfl) rfl rfl (by kernel_rfl) (by kernel_rfl) ⟨isV_mono, isV_mono, isV_mono, isV_mono, isV_mono, isV_mono, isV_mono, isV_mono, isV_mono, isV_mono, isV_mono, isV_mono, isV_mono, fun v w w' ⟨b, e, h0, h1, h2, h3, h4⟩ hx => ⟨b, e, h0, hx.keeps _ _ h1, hx.keeps _ _ h2, (Below.frozen (p := ⟨b, 0, none⟩) hx (lt_of_cell h1)).trans h3, (Below.frozen (p := ⟨b, 1, none⟩) hx (lt_of_cell h2)).trans h4⟩, trivial⟩ ?each ?rest
    case each =>
      refine .cons ?_ (.cons ?_ (.cons ?_ (.cons ?_ (.cons ?_ (.cons ?_ (.cons ?_ (.cons ?_ (.cons ?_ (.cons ?_ (.cons ?_ (.cons ?_ (.cons ?_ (.cons ?_ (.nil))))))))))))))
      · intro fa fw hx hs hb
        have s12 : fa.tmps[(12 : Nat)]? = some (.slice (some ⟨w.heap.size + 1 + 1, 0, none⟩) 4 4) := (hb 12 (by kernel_rfl)).trans (by rfl)
        refine .inl ⟨wanted_free rfl, fun K hK => ?_⟩
        clear hs hb hx
        go_simp
        exact hK _ _ rfl (Ext.refl _)
      · intro fa fw hx hs hb
        have s14 : fa.tmps[(14 : Nat)]? = some (.int .i64 0) := (hb 14 (by kernel_rfl)).trans (by rfl)
        refine .inl ⟨wanted_free rfl, fun K hK => ?_⟩
        clear hs hb hx
        go_simp
        exact hK _ _ rfl (Ext.refl _)
      · intro fa fw hx hs hb
        obtain ⟨_, s89, rfl⟩ := hs 0 89 (by kernel_rfl) (by kernel_rfl)
        obtain ⟨_, s90, rfl⟩ := hs 1 90 (by kernel_rfl) (by kernel_rfl)
        refine .inl ⟨wanted_free rfl, fun K hK => ?_⟩
        clear hs hb hx
        go_simp
        exact hK _ _ rfl (Ext.refl _)
      · intro fa fw hx hs hb
        obtain ⟨_, s91, rfl⟩ := hs 2 91 (by kernel_rfl) (by kernel_rfl)
        have c0 := hx.keeps _ _ E1.out
        refine .inl ⟨wanted_free rfl, fun K hK => ?_⟩
        clear hs hb hx
        go_simp
        exact hK _ _ rfl (Ext.refl _)
      · intro fa fw hx hs hb
        have s15 : fa.tmps[(15 : Nat)]? = some (S (65 :: r)) := (hb 15 (by kernel_rfl)).trans (by rfl)
        refine .inl ⟨wanted_free rfl, fun K hK => ?_⟩
        clear hs hb hx
        go_simp
        exact hK _ _ rfl (Ext.refl _)
      · intro fa fw hx hs hb
        obtain ⟨_, s93, rfl⟩ := hs 4 93 (by kernel_rfl) (by kernel_rfl)
        refine .inl ⟨wanted_free rfl, fun K hK => ?_⟩
        clear hs hb
        go_simp
        exact hK _ _ rfl (Ext.refl _)
      · intro fa fw hx hs hb
        have s13 : fa.tmps[(13 : Nat)]? = some (.slice (some ⟨w.heap.size + 1 + 1 + 1, 0, none⟩) 4 4) := (hb 13 (by kernel_rfl)).trans (by rfl)
        refine .inl ⟨wanted_free rfl, fun K hK => ?_⟩
        clear hs hb hx
        go_simp
        exact hK _ _ rfl (Ext.refl _)
      · intro fa fw hx hs hb
        have s14 : fa.tmps[(14 : Nat)]? = some (.int .i64 0) := (hb 14 (by kernel_rfl)).trans (by rfl)
        refine .inl ⟨wanted_free rfl, fun K hK => ?_⟩
        clear hs hb hx
        go_simp
        exact hK _ _ rfl (Ext.refl _)
      · intro fa fw hx hs hb
        obtain ⟨_, s95, rfl⟩ := hs 6 95 (by kernel_rfl) (by kernel_rfl)
        obtain ⟨_, s96, rfl⟩ := hs 7 96 (by kernel_rfl) (by kernel_rfl)
        refine .inl ⟨wanted_free rfl, fun K hK => ?_⟩
        clear hs hb hx
        go_simp
        exact hK _ _ rfl (Ext.refl _)
      · intro fa fw hx hs hb
        obtain ⟨_, s97, rfl⟩ := hs 8 97 (by kernel_rfl) (by kernel_rfl)
        have c0 := hx.keeps _ _ F1.out
        refine .inl ⟨wanted_free rfl, fun K hK => ?_⟩
        clear hs hb hx
        go_simp
        exact hK _ _ rfl (Ext.refl _)
      · intro fa fw hx hs hb
        obtain ⟨_, s94, rfl⟩ := hs 5 94 (by kernel_rfl) (by kernel_rfl)
        obtain ⟨_, s98, rfl⟩ := hs 9 98 (by kernel_rfl) (by kernel_rfl)
        refine .inl ⟨wanted_free rfl, fun K hK => ?_⟩
        clear hs hb
        go_simp
        exact hK _ _ rfl (Ext.refl _)
      · intro fa fw hx hs hb
        obtain ⟨_, s99, rfl⟩ := hs 10 99 (by kernel_rfl) (by kernel_rfl)
        refine .inl ⟨wanted_free rfl, fun K hK => ?_⟩
        clear hs hb
        go_simp
        exact hK _ _ rfl (Ext.refl _)
      · intro fa fw hx hs hb
        obtain ⟨_, s92, rfl⟩ := hs 3 92 (by kernel_rfl) (by kernel_rfl)
        obtain ⟨_, s100, rfl⟩ := hs 11 100 (by kernel_rfl) (by kernel_rfl)
        refine .inl ⟨wanted_free rfl, fun K hK => ?_⟩
        clear hs hb
        go_simp
        exact hK _ _ rfl (Ext.refl _)
      · intro fa fw hx hs hb
        refine .inl ⟨wanted_free rfl, fun K hK => ?_⟩
        clear hs hb
        go_simp
        exact hK _ _ ⟨_, rfl, hx.size, by rw [World.cell?_alloc_new]; rfl, by rw [World.cell?_alloc_new]; rfl, World.frozen?_alloc_at _ _ _ _ rfl, World.frozen?_alloc_at _ _ _ _ rfl⟩ ((Ext.refl _).alloc _)
    case rest =>
      intro w3 hxw3
      rintro _ rfl
      rintro _ rfl
      rintro _ rfl
      rintro _ rfl
      rintro _ rfl
      rintro _ rfl
      rintro _ rfl
      rintro _ rfl
      rintro _ rfl
      rintro _ rfl
      rintro _ rfl
      rintro _ rfl
      rintro _ rfl
      rintro _ ⟨b17, rfl, q17⟩
      simp only [putAll, List.take, Act.put, List.setIfInBounds_toArray, List.set_cons_zero, List.set_cons_succ]
      obtain ⟨qb0, qb1, qb2, qb3, qb4⟩ := q17
      refine wpAny_ready (rs := [14]) (by kernel_rfl) (by simp) (AllReady.cons rfl (fun KK hKK => ?_) AllReady.nil)
      go_simp
      refine hKK _ _ ?_
      clear hKK KK
      refine wpAny_done (by kernel_rfl) ?_ _
      have k0 : ((w3.setCell ⟨b17, 0, none⟩ (.int .i64 3)).setCell ⟨b17, 1, none⟩ (.int .i64 0)).cell? ⟨b17, 0, none⟩ = some (.int .i64 3) := (World.cell?_setCell_other _ _ _ _ (by simp)).trans (World.cell?_setCell_same _ _ _ qb1)
      have k1 : ((w3.setCell ⟨b17, 0, none⟩ (.int .i64 3)).setCell ⟨b17, 1, none⟩ (.int .i64 0)).cell? ⟨b17, 1, none⟩ = some (.int .i64 0) := World.cell?_setCell_same _ _ _ ((World.cell?_setCell_other _ _ _ _ (by simp)).trans qb2)
      have x4 : Ext w ((w3.setCell ⟨b17, 0, none⟩ (.int .i64 3)).setCell ⟨b17, 1, none⟩ (.int .i64 0)) := (((xf.trans hxw2).trans hxw3).setCell (by show w.heap.size ≤ b17; have := (xf.trans hxw2).size; omega) _).setCell (by show w.heap.size ≤ b17; have := (xf.trans hxw2).size; omega) _
      generalize (w3.setCell ⟨b17, 0, none⟩ (.int .i64 3)).setCell ⟨b17, 1, none⟩ (.int .i64 0) = w4 at *
      clear qb1 qb2 qb3 qb4
      have hrl : r.length ≤ 5000 := by have := rest_len wEmit s; rw [HQ'.out] at this; simp at this; omega
      go_wp2
      rw [ba_tail1]
      refine bodyPost_ret (v := Pr3 (.slice (some ⟨w4.heap.size, 0, none⟩) 1 1) (S r) (.bool true)) (by simp [results, Tryz.results42, go_sem]) rfl ⟨_, 1, rfl, ?_, by simp [Tr.size], by unfold maxLen; omega, by simp [Tr.size], hrl, x4.alloc _⟩
      exact Sl2.newAt PK PS _ _ [⟨3, 0⟩] _ _ rfl rfl
set_option maxHeartbeats 400000 in
theorem from_w3_1 (w : World) (s : List UInt8) (l : Nat) (hs : s.length ≤ 5000) (hl : l ≤ 13) (hi0 : isP wNothing s = false) (hi1 : isP wPause s = false) (hi2 : isP wHalt s = false) (hi3 : isP wEmit s = true) {r : List UInt8} (hq : restP wEmit s = 66 :: r) :
    Calls Tryz.prog 42 #[S s, I ((l : Int) + 1)] w (FromPost w (l + 1) (some (.leaf ⟨3, 1⟩, r))) := by
  have HI0 := Lib.hid hi0; clear hi0
  have HI1 := Lib.hid hi1; clear hi1
  have HI2 := Lib.hid hi2; clear hi2
  have HI3 := Lib.hid hi3; clear hi3
  have HQ' := Lib.hid hq; clear hq
  go_enter Tryz.func42, Tryz.ntmps42
  go_wp2_with fail
  refine wp_loop_rounds 4 ?_
  rw [rounds_succ]
  go_wp2_with fail
  refine (after_any s wNothing (by omega) (by decide) _).mono ?_; rintro e w' ⟨rfl, rfl⟩; rw [HI0.out]
  go_wp2_with fail
  rw [rounds_succ]
  go_wp2_with fail
  refine (after_any s wPause (by omega) (by decide) _).mono ?_; rintro e w' ⟨rfl, rfl⟩; rw [HI1.out]
  go_wp2_with fail
  rw [rounds_succ]
  go_wp2_with fail
  refine (after_any s wHalt (by omega) (by decide) _).mono ?_; rintro e w' ⟨rfl, rfl⟩; rw [HI2.out]
  go_wp2_with fail
  rw [rounds_succ]
  go_wp2_with fail
  rw [rfW_eq]
  have d0 := rfW_word w 0 _ rfl
  have d1 := rfW_word w 1 _ rfl
  have d2 := rfW_word w 2 _ rfl
  have d3 := rfW_word w 3 _ rfl
  have e0 := rfW_kind w 0 _ rfl
  have f0 := rfW_first w 0 _ rfl
  have xf := rfW_ext w
  have hsz := rfW_size w
  generalize rfW w = wf at *
  refine wp_loop_rounds 5 ?_
  rw [rounds_succ]
  go_hideQ
  go_wp2_with fail
  refine (after_any s wEmit (by omega) (by decide) _).mono ?_; rintro e w' ⟨rfl, rfl⟩; rw [HI3.out]
  rw [HQ'.out]
  go_wp2_with fail
  have F0 := Lib.hid f0
  refine wp_flow3 21 0 [isV (S (66 :: r)), isV (.bool false), isV (.bool false), isV (S (66 :: r)), isV (.int .u8 66), isV (.slice (some ⟨w.heap.size + 1 + 1 + 1, 0, none⟩) 4 4), isV (.int .i64 0), isV (.pointer (some ⟨w.heap.size + 1 + 1 + 1, 0, none⟩)), isV (.int .u8 65), isV (.bool false), isV (.bool false), isV (.bool false), isV (S (66 :: r)), isV (.int .u8 66), isV (.slice (some ⟨w.heap.size + 1 + 1 + 1, 0, none⟩) 4 4), isV (.int .i64 0), isV (.pointer (some ⟨w.heap.size + 1 + 1 + 1, 0, none⟩)), isV (.int .u8 65), isV (.int .u8 67), isV (.bool false), isV (.bool false)] (by kernel_rfl) rfl rfl (by kernel_rfl) (by kernel_rfl) ⟨isV_mono, isV_mono, isV_mono, isV_mono, isV_mono, isV_mono, isV_mono, isV_mono, isV_mono, isV_mono, isV_mono, isV_mono, isV_mono, isV_mono, isV_mono, isV_mono, isV_mono, isV_mono, isV_mono, isV_mono, isV_mono, trivial⟩ ?each ?rest
  case each =>
    refine .cons ?_ (.cons ?_ (.cons ?_ (.cons ?_ (.cons ?_ (.cons ?_ (.cons ?_ (.cons ?_ (.cons ?_ (.cons ?_ (.cons ?_ (.cons ?_ (.cons ?_ (.cons ?_ (.cons ?_ (.cons ?_ (.cons ?_ (.cons ?_ (.cons ?_ (.cons ?_ (.cons ?_ (.nil)))))))))))))))))))))
    · intro fa fw hx hs hb
      have s15 : fa.tmps[(15 : Nat)]? = some (S (66 :: r)) := (hb 15 (by kernel_rfl)).trans (by rfl)
      refine .inl ⟨wanted_free rfl, fun K hK => ?_⟩
      clear hs hb hx
      go_simp
      exact hK _ _ rfl (Ext.refl _)
    · intro fa fw hx hs hb
      obtain ⟨_, s67, rfl⟩ := hs 0 67 (by kernel_rfl) (by kernel_rfl)
      refine .inl ⟨wanted_free rfl, fun K hK => ?_⟩
      clear hs hb
      go_simp
      exact hK _ _ rfl (Ext.refl _)
    · intro fa fw hx hs hb
      obtain ⟨_, s68, rfl⟩ := hs 1 68 (by kernel_rfl) (by kernel_rfl)
      refine .inl ⟨wanted_free rfl, fun K hK => ?_⟩
      clear hs hb hx
      go_simp
      exact hK _ _ rfl (Ext.refl _)
    · intro fa fw hx hs hb
      obtain ⟨_, s69, rfl⟩ := hs 2 69 (by kernel_rfl) (by kernel_rfl)
      have s15 : fa.tmps[(15 : Nat)]? = some (S (66 :: r)) := (hb 15 (by kernel_rfl)).trans (by rfl)
      refine .inl ⟨wanted_yes 2 false 69 rfl (by kernel_rfl) s69, fun K hK => ?_⟩
      clear hs hb hx
      go_simp
      exact hK _ _ rfl (Ext.refl _)
    · intro fa fw hx hs hb
      obtain ⟨_, s69, rfl⟩ := hs 2 69 (by kernel_rfl) (by kernel_rfl)
      obtain ⟨_, s70, rfl⟩ := hs 3 70 (by kernel_rfl) (by kernel_rfl)
      refine .inl ⟨wanted_yes 2 false 69 rfl (by kernel_rfl) s69, fun K hK => ?_⟩
      clear hs hb
      go_simp
      exact hK _ _ rfl (Ext.refl _)
    · intro fa fw hx hs hb
      obtain ⟨_, s69, rfl⟩ := hs 2 69 (by kernel_rfl) (by kernel_rfl)
      have s13 : fa.tmps[(13 : Nat)]? = some (.slice (some ⟨w.heap.size + 1 + 1 + 1, 0, none⟩) 4 4) := (hb 13 (by kernel_rfl)).trans (by rfl)
      refine .inl ⟨wanted_yes 2 false 69 rfl (by kernel_rfl) s69, fun K hK => ?_⟩
      clear hs hb hx
      go_simp
      exact hK _ _ rfl (Ext.refl _)
    · intro fa fw hx hs hb
      obtain ⟨_, s69, rfl⟩ := hs 2 69 (by kernel_rfl) (by kernel_rfl)
      have s14 : fa.tmps[(14 : Nat)]? = some (.int .i64 0) := (hb 14 (by kernel_rfl)).trans (by rfl)
      refine .inl ⟨wanted_yes 2 false 69 rfl (by kernel_rfl) s69, fun K hK => ?_⟩
      clear hs hb hx
      go_simp
      exact hK _ _ rfl (Ext.refl _)
    · intro fa fw hx hs hb
      obtain ⟨_, s69, rfl⟩ := hs 2 69 (by kernel_rfl) (by kernel_rfl)
      obtain ⟨_, s72, rfl⟩ := hs 5 72 (by kernel_rfl) (by kernel_rfl)
      obtain ⟨_, s73, rfl⟩ := hs 6 73 (by kernel_rfl) (by kernel_rfl)
      refine .inl ⟨wanted_yes 2 false 69 rfl (by kernel_rfl) s69, fun K hK => ?_⟩
      clear hs hb hx
      go_simp
      exact hK _ _ rfl (Ext.refl _)
    · intro fa fw hx hs hb
      obtain ⟨_, s69, rfl⟩ := hs 2 69 (by kernel_rfl) (by kernel_rfl)
      obtain ⟨_, s74, rfl⟩ := hs 7 74 (by kernel_rfl) (by kernel_rfl)
      have c0 := hx.keeps _ _ F0.out
      refine .inl ⟨wanted_yes 2 false 69 rfl (by kernel_rfl) s69, fun K hK => ?_⟩
      clear hs hb hx
      go_simp
      exact hK _ _ rfl (Ext.refl _)
    · intro fa fw hx hs hb
      obtain ⟨_, s69, rfl⟩ := hs 2 69 (by kernel_rfl) (by kernel_rfl)
      obtain ⟨_, s71, rfl⟩ := hs 4 71 (by kernel_rfl) (by kernel_rfl)
      obtain ⟨_, s75, rfl⟩ := hs 8 75 (by kernel_rfl) (by kernel_rfl)
      refine .inl ⟨wanted_yes 2 false 69 rfl (by kernel_rfl) s69, fun K hK => ?_⟩
      clear hs hb
      go_simp
      exact hK _ _ rfl (Ext.refl _)
    · intro fa fw hx hs hb
      obtain ⟨_, s69, rfl⟩ := hs 2 69 (by kernel_rfl) (by kernel_rfl)
      obtain ⟨_, s76, rfl⟩ := hs 9 76 (by kernel_rfl) (by kernel_rfl)
      refine .inl ⟨wanted_free rfl, fun K hK => ?_⟩
      clear hs hb hx
      go_simp
      exact hK _ _ rfl (Ext.refl _)
    · intro fa fw hx hs hb
      obtain ⟨_, s77, rfl⟩ := hs 10 77 (by kernel_rfl) (by kernel_rfl)
      refine .inl ⟨wanted_free rfl, fun K hK => ?_⟩
      clear hs hb hx
      go_simp
      exact hK _ _ rfl (Ext.refl _)
    · intro fa fw hx hs hb
      obtain ⟨_, s78, rfl⟩ := hs 11 78 (by kernel_rfl) (by kernel_rfl)
      have s15 : fa.tmps[(15 : Nat)]? = some (S (66 :: r)) := (hb 15 (by kernel_rfl)).trans (by rfl)
      refine .inl ⟨wanted_yes 11 false 78 rfl (by kernel_rfl) s78, fun K hK => ?_⟩
      clear hs hb hx
      go_simp
      exact hK _ _ rfl (Ext.refl _)
    · intro fa fw hx hs hb
      obtain ⟨_, s78, rfl⟩ := hs 11 78 (by kernel_rfl) (by kernel_rfl)
      obtain ⟨_, s79, rfl⟩ := hs 12 79 (by kernel_rfl) (by kernel_rfl)
      refine .inl ⟨wanted_yes 11 false 78 rfl (by kernel_rfl) s78, fun K hK => ?_⟩
      clear hs hb
      go_simp
      exact hK _ _ rfl (Ext.refl _)
    · intro fa fw hx hs hb
      obtain ⟨_, s78, rfl⟩ := hs 11 78 (by kernel_rfl) (by kernel_rfl)
      have s13 : fa.tmps[(13 : Nat)]? = some (.slice (some ⟨w.heap.size + 1 + 1 + 1, 0, none⟩) 4 4) := (hb 13 (by kernel_rfl)).trans (by rfl)
      refine .inl ⟨wanted_yes 11 false 78 rfl (by kernel_rfl) s78, fun K hK => ?_⟩
      clear hs hb hx
      go_simp
      exact hK _ _ rfl (Ext.refl _)
    · intro fa fw hx hs hb
      obtain ⟨_, s78, rfl⟩ := hs 11 78 (by kernel_rfl) (by kernel_rfl)
      have s14 : fa.tmps[(14 : Nat)]? = some (.int .i64 0) := (hb 14 (by kernel_rfl)).trans (by rfl)
      refine .inl ⟨wanted_yes 11 false 78 rfl (by kernel_rfl) s78, fun K hK => ?_⟩
      clear hs hb hx
      go_simp
      exact hK _ _ rfl (Ext.refl _)
    · intro fa fw hx hs hb
      obtain ⟨_, s78, rfl⟩ := hs 11 78 (by kernel_rfl) (by kernel_rfl)
      obtain ⟨_, s81, rfl⟩ := hs 14 81 (by kernel_rfl) (by kernel_rfl)
      obtain ⟨_, s82, rfl⟩ := hs 15 82 (by kernel_rfl) (by kernel_rfl)
      refine .inl ⟨wanted_yes 11 false 78 rfl (by kernel_rfl) s78, fun K hK => ?_⟩
      clear hs hb hx
      go_simp
      exact hK _ _ rfl (Ext.refl _)
    · intro fa fw hx hs hb
      obtain ⟨_, s78, rfl⟩ := hs 11 78 (by kernel_rfl) (by kernel_rfl)
      obtain ⟨_, s83, rfl⟩ := hs 16 83 (by kernel_rfl) (by kernel_rfl)
      have c0 := hx.keeps _ _ F0.out
      refine .inl ⟨wanted_yes 11 false 78 rfl (by kernel_rfl) s78, fun K hK => ?_⟩
      clear hs hb hx
      go_simp
      exact hK _ _ rfl (Ext.refl _)
    · intro fa fw hx hs hb
      obtain ⟨_, s78, rfl⟩ := hs 11 78 (by kernel_rfl) (by kernel_rfl)
      obtain ⟨_, s84, rfl⟩ := hs 17 84 (by kernel_rfl) (by kernel_rfl)
      refine .inl ⟨wanted_yes 11 false 78 rfl (by kernel_rfl) s78, fun K hK => ?_⟩
      clear hs hb
      go_simp
      exact hK _ _ rfl (Ext.refl _)
    · intro fa fw hx hs hb
      obtain ⟨_, s78, rfl⟩ := hs 11 78 (by kernel_rfl) (by kernel_rfl)
      obtain ⟨_, s80, rfl⟩ := hs 13 80 (by kernel_rfl) (by kernel_rfl)
      obtain ⟨_, s85, rfl⟩ := hs 18 85 (by kernel_rfl) (by kernel_rfl)
      refine .inl ⟨wanted_yes 11 false 78 rfl (by kernel_rfl) s78, fun K hK => ?_⟩
      clear hs hb
      go_simp
      exact hK _ _ rfl (Ext.refl _)
    · intro fa fw hx hs hb
      obtain ⟨_, s78, rfl⟩ := hs 11 78 (by kernel_rfl) (by kernel_rfl)
      obtain ⟨_, s86, rfl⟩ := hs 19 86 (by kernel_rfl) (by kernel_rfl)
      refine .inl ⟨wanted_free rfl, fun K hK => ?_⟩
      clear hs hb hx
      go_simp
      exact hK _ _ rfl (Ext.refl _)
  case rest =>
    intro w2 hxw2
    rintro _ rfl
    rintro _ rfl
    rintro _ rfl
    rintro _ rfl
    rintro _ rfl
    rintro _ rfl
    rintro _ rfl
    rintro _ rfl
    rintro _ rfl
    rintro _ rfl
    rintro _ rfl
    rintro _ rfl
    rintro _ rfl
    rintro _ rfl
    rintro _ rfl
    rintro _ rfl
    rintro _ rfl
    rintro _ rfl
    rintro _ rfl
    rintro _ rfl
    rintro _ rfl
    simp only [putAll, List.take, Act.put, List.setIfInBounds_toArray, List.set_cons_zero, List.set_cons_succ]
    refine wpAny_done (by kernel_rfl) ?_ _
    go_wp2_with fail
    have F1 := Lib.hid (hxw2.keeps _ _ F0.out); have E1 := Lib.hid (hxw2.keeps _ _ e0)
    refine wp_flow3 14 1 [isV (.slice (some ⟨w.heap.size + 1 + 1, 0, none⟩) 4 4), isV (.int .i64 0), isV (.pointer (some ⟨w.heap.size + 1 + 1, 0, none⟩)), isV (.int .i64 3), isV (S (66 :: r)), isV (.int .u8 66), isV (.slice (some ⟨w.heap.size + 1 + 1 + 1, 0, none⟩) 4 4), isV (.int .i64 0), isV (.pointer (some ⟨w.heap.size + 1 + 1 + 1, 0, none⟩)), isV (.int .u8 65), isV (.int .u8 1), isV (.int .i64 1), isV (.agg #[.int .i64 3, .int .i64 1]), fun v w => ∃ b, v = .pointer (some ⟨b, 0, none⟩) ∧ w2.heap.size ≤ b ∧ w.cell? ⟨b, 0, none⟩ = some (I 0) ∧ w.cell? ⟨b, 1, none⟩ = some (I 0) ∧ w.frozen? ⟨b, 0, none⟩ = false ∧ w.frozen? ⟨b, 1, none⟩ = false] (by kernel_rfl) rfl rfl (by kernel_rfl) (by kernel_rfl) ⟨isV_mono, isV_mono, isV_mono, isV_mono, isV_mono, isV_mono, isV_mono, isV_mono, isV_mono, isV_mono, isV_mono, isV_mono, isV_mono, fun v w w' ⟨b, e, h0, h1, h2, h3, h4⟩ hx => ⟨b, e, h0, hx.keeps _ _ h1, hx.keeps _ _ h2, (Below.frozen (p := ⟨b, 0, none⟩) hx (lt_of_cell h1)).trans h3, (Below.frozen (p := ⟨b, 1, none⟩) hx (lt_of_cell h2)).trans h4⟩, trivial⟩ ?each ?rest
    case each =>
      refine .cons ?_ (.cons ?_ (.cons ?_ (.cons ?_ (.cons ?_ (.cons ?_ (.cons ?_ (.cons ?_ (.cons ?_ (.cons ?_ (.cons ?_ (.cons ?_ (.cons ?_ (.cons ?_ (.nil))))))))))))))
      · intro fa fw hx hs hb
        have s12 : fa.tmps[(12 : Nat)]? = some (.slice (some ⟨w.heap.size + 1 + 1, 0, none⟩) 4 4) := (hb 12 (by kernel_rfl)).trans (by rfl)
        refine .inl ⟨wanted_free rfl, fun K hK => ?_⟩
        clear hs hb hx
        go_simp
        exact hK _ _ rfl (Ext.refl _)
      · intro fa fw hx hs hb
        have s14 : fa.tmps[(14 : Nat)]? = some (.int .i64 0) := (hb 14 (by kernel_rfl)).trans (by rfl)
        refine .inl ⟨wanted_free rfl, fun K hK => ?_⟩
        clear hs hb hx
        go_simp
        exact hK _ _ rfl (Ext.refl _)
      · intro fa fw hx hs hb
        obtain ⟨_, s89, rfl⟩ := hs 0 89 (by kernel_rfl) (by kernel_rfl)
        obtain ⟨_, s90, rfl⟩ := hs 1 90 (by kernel_rfl) (by kernel_rfl)
        refine .inl ⟨wanted_free rfl, fun K hK => ?_⟩
        clear hs hb hx
        go_simp
        exact hK _ _ rfl (Ext.refl _)
      · intro fa fw hx hs hb
        obtain ⟨_, s91, rfl⟩ := hs 2 91 (by kernel_rfl) (by kernel_rfl)
        have c0 := hx.keeps _ _ E1.out
        refine .inl ⟨wanted_free rfl, fun K hK => ?_⟩
        clear hs hb hx
        go_simp
        exact hK _ _ rfl (Ext.refl _)
      · intro fa fw hx hs hb
        have s15 : fa.tmps[(15 : Nat)]? = some (S (66 :: r)) := (hb 15 (by kernel_rfl)).trans (by rfl)
        refine .inl ⟨wanted_free rfl, fun K hK => ?_⟩
        clear hs hb hx
        go_simp
        exact hK _ _ rfl (Ext.refl _)
      · intro fa fw hx hs hb
        obtain ⟨_, s93, rfl⟩ := hs 4 93 (by kernel_rfl) (by kernel_rfl)
        refine .inl ⟨wanted_free rfl, fun K hK => ?_⟩
        clear hs hb
        go_simp
        exact hK _ _ rfl (Ext.refl _)
      · intro fa fw hx hs hb
        have s13 : fa.tmps[(13 : Nat)]? = some (.slice (some ⟨w.heap.size + 1 + 1 + 1, 0, none⟩) 4 4) := (hb 13 (by kernel_rfl)).trans (by rfl)
        refine .inl ⟨wanted_free rfl, fun K hK => ?_⟩
        clear hs hb hx
        go_simp
        exact hK _ _ rfl (Ext.refl _)
      · intro fa fw hx hs hb
        have s14 : fa.tmps[(14 : Nat)]? = some (.int .i64 0) := (hb 14 (by kernel_rfl)).trans (by rfl)
        refine .inl ⟨wanted_free rfl, fun K hK => ?_⟩
        clear hs hb hx
        go_simp
        exact hK _ _ rfl (Ext.refl _)
      · intro fa fw hx hs hb
        obtain ⟨_, s95, rfl⟩ := hs 6 95 (by kernel_rfl) (by kernel_rfl)
        obtain ⟨_, s96, rfl⟩ := hs 7 96 (by kernel_rfl) (by kernel_rfl)
        refine .inl ⟨wanted_free rfl, fun K hK => ?_⟩
        clear hs hb hx
        go_simp
        exact hK _ _ rfl (Ext.refl _)
      · intro fa fw hx hs hb
        obtain ⟨_, s97, rfl⟩ := hs 8 97 (by kernel_rfl) (by kernel_rfl)
        have c0 := hx.keeps _ _ F1.out
        refine .inl ⟨wanted_free rfl, fun K hK => ?_⟩
        clear hs hb hx
        go_simp
        exact hK _ _ rfl (Ext.refl _)
      · intro fa fw hx hs hb
        obtain ⟨_, s94, rfl⟩ := hs 5 94 (by kernel_rfl) (by kernel_rfl)
        obtain ⟨_, s98, rfl⟩ := hs 9 98 (by kernel_rfl) (by kernel_rfl)
        refine .inl ⟨wanted_free rfl, fun K hK => ?_⟩
        clear hs hb
        go_simp
        exact hK _ _ rfl (Ext.refl _)
      · intro fa fw hx hs hb
        obtain ⟨_, s99, rfl⟩ := hs 10 99 (by kernel_rfl) (by kernel_rfl)
        refine .inl ⟨wanted_free rfl, fun K hK => ?_⟩
        clear hs hb
        go_simp
        exact hK _ _ rfl (Ext.refl _)
      · intro fa fw hx hs hb
        obtain ⟨_, s92, rfl⟩ := hs 3 92 (by kernel_rfl) (by kernel_rfl)
        obtain ⟨_, s100, rfl⟩ := hs 11 100 (by kernel_rfl) (by kernel_rfl)
        refine .inl ⟨wanted_free rfl, fun K hK => ?_⟩
        clear hs hb
        go_simp
        exact hK _ _ rfl (Ext.refl _)
      · intro fa fw hx hs hb
        refine .inl ⟨wanted_free rfl, fun K hK => ?_⟩
        clear hs hb
        go_simp
        exact hK _ _ ⟨_, rfl, hx.size, by rw [World.cell?_alloc_new]; rfl, by rw [World.cell?_alloc_new]; rfl, World.frozen?_alloc_at _ _ _ _ rfl, World.frozen?_alloc_at _ _ _ _ rfl⟩ ((Ext.refl _).alloc _)
    case rest =>
      intro w3 hxw3
      rintro _ rfl
      rintro _ rfl
      rintro _ rfl
      rintro _ rfl
      rintro _ rfl
      rintro _ rfl
      rintro _ rfl
      rintro _ rfl
      rintro _ rfl
      rintro _ rfl
      rintro _ rfl
      rintro _ rfl
      rintro _ rfl
      rintro _ ⟨b17, rfl, q17⟩
      simp only [putAll, List.take, Act.put, List.setIfInBounds_toArray, List.set_cons_zero, List.set_cons_succ]
      obtain ⟨qb0, qb1, qb2, qb3, qb4⟩ := q17
      refine wpAny_ready (rs := [14]) (by kernel_rfl) (by simp) (AllReady.cons rfl (fun KK hKK => ?_) AllReady.nil)
      go_simp
      refine hKK _ _ ?_
      clear hKK KK
      refine wpAny_done (by kernel_rfl) ?_ _
      have k0 : ((w3.setCell ⟨b17, 0, none⟩ (.int .i64 3)).setCell ⟨b17, 1, none⟩ (.int .i64 1)).cell? ⟨b17, 0, none⟩ = some (.int .i64 3) := (World.cell?_setCell_other _ _ _ _ (by simp)).trans (World.cell?_setCell_same _ _ _ qb1)
      have k1 : ((w3.setCell ⟨b17, 0, none⟩ (.int .i64 3)).setCell ⟨b17, 1, none⟩ (.int .i64 1)).cell? ⟨b17, 1, none⟩ = some (.int .i64 1) := World.cell?_setCell_same _ _ _ ((World.cell?_setCell_other _ _ _ _ (by simp)).trans qb2)
      have x4 : Ext w ((w3.setCell ⟨b17, 0, none⟩ (.int .i64 3)).setCell ⟨b17, 1, none⟩ (.int .i64 1)) := (((xf.trans hxw2).trans hxw3).setCell (by show w.heap.size ≤ b17; have := (xf.trans hxw2).size; omega) _).setCell (by show w.heap.size ≤ b17; have := (xf.trans hxw2).size; omega) _
      generalize (w3.setCell ⟨b17, 0, none⟩ (.int .i64 3)).setCell ⟨b17, 1, none⟩ (.int .i64 1) = w4 at *
      clear qb1 qb2 qb3 qb4
      have hrl : r.length ≤ 5000 := by have := rest_len wEmit s; rw [HQ'.out] at this; simp at this; omega
      go_wp2
      rw [ba_tail1]
      refine bodyPost_ret (v := Pr3 (.slice (some ⟨w4.heap.size, 0, none⟩) 1 1) (S r) (.bool true)) (by simp [results, Tryz.results42, go_sem]) rfl ⟨_, 1, rfl, ?_, by simp [Tr.size], by unfold maxLen; omega, by simp [Tr.size], hrl, x4.alloc _⟩
      exact Sl2.newAt PK PS _ _ [⟨3, 1⟩] _ _ rfl rfl
set_option maxHeartbeats 400000 in
theorem from_w3_2 (w : World) (s : List UInt8) (l : Nat) (hs : s.length ≤ 5000) (hl : l ≤ 13) (hi0 : isP wNothing s = false) (hi1 : isP wPause s = false) (hi2 : isP wHalt s = false) (hi3 : isP wEmit s = true) {r : List UInt8} (hq : restP wEmit s = 67 :: r) :
    Calls Tryz.prog 42 #[S s, I ((l : Int) + 1)] w (FromPost w (l + 1) (some (.leaf ⟨3, 2⟩, r))) := by
  have HI0 := Lib.hid hi0; clear hi0
  have HI1 := Lib.hid hi1; clear hi1
  have HI2 := Lib.hid hi2; clear hi2
  have HI3 := Lib.hid hi3; clear hi3
  have HQ' := Lib.hid hq; clear hq
  go_enter Tryz.func42, Tryz.ntmps42
  go_wp2_with fail
  refine wp_loop_rounds 4 ?_
  rw [rounds_succ]
  go_wp2_with fail
  refine (after_any s wNothing (by omega) (by decide) _).mono ?_; rintro e w' ⟨rfl, rfl⟩; rw [HI0.out]
  go_wp2_with fail
  rw [rounds_succ]
  go_wp2_with fail
  refine (after_any s wPause (by omega) (by decide) _).mono ?_; rintro e w' ⟨rfl, rfl⟩; rw [HI1.out]
  go_wp2_with fail
  rw [rounds_succ]
  go_wp2_with fail
  refine (after_any s wHalt (by omega) (by decide) _).mono ?_; rintro e w' ⟨rfl, rfl⟩; rw [HI2.out]
  go_wp2_with fail
  rw [rounds_succ]
  go_wp2_with fail
  rw [rfW_eq]
  have d0 := rfW_word w 0 _ rfl
  have d1 := rfW_word w 1 _ rfl
  have d2 := rfW_word w 2 _ rfl
  have d3 := rfW_word w 3 _ rfl
  have e0 := rfW_kind w 0 _ rfl
  have f0 := rfW_first w 0 _ rfl
  have xf := rfW_ext w
  have hsz := rfW_size w
  generalize rfW w = wf at *
  refine wp_loop_rounds 5 ?_
  rw [rounds_succ]
  go_hideQ
  go_wp2_with fail
  refine (after_any s wEmit (by omega) (by decide) _).mono ?_; rintro e w' ⟨rfl, rfl⟩; rw [HI3.out]
  rw [HQ'.out]
  go_wp2_with fail
  have F0 := Lib.hid f0
  refine wp_flow3 21 0 [isV (S (67 :: r)), isV (.bool false), isV (.bool false), isV (S (67 :: r)), isV (.int .u8 67), isV (.slice (some ⟨w.heap.size + 1 + 1 + 1, 0, none⟩) 4 4), isV (.int .i64 0), isV (.pointer (some ⟨w.heap.size + 1 + 1 + 1, 0, none⟩)), isV (.int .u8 65), isV (.bool false), isV (.bool false), isV (.bool false), isV (S (67 :: r)), isV (.int .u8 67), isV (.slice (some ⟨w.heap.size + 1 + 1 + 1, 0, none⟩) 4 4), isV (.int .i64 0), isV (.pointer (some ⟨w.heap.size + 1 + 1 + 1, 0, none⟩)), isV (.int .u8 65), isV (.int .u8 67), isV (.bool false), isV (.bool false)] (by kernel_rfl) rfl rfl (by kernel_rfl) (by kernel_rfl) ⟨isV_mono, isV_mono, isV_mono, isV_mono, isV_mono, isV_mono, isV_mono, isV_mono, isV_mono, isV_mono, isV_mono, isV_mono, isV_mono, isV_mono, isV_mono, isV_mono, isV_mono, isV_mono, isV_mono, isV_mono, isV_mono, trivial⟩ ?each ?rest
  case each =>
    refine .cons ?_ (.cons ?_ (.cons ?_ (.cons ?_ (.cons ?_ (.cons ?_ (.cons ?_ (.cons ?_ (.cons ?_ (.cons ?_ (.cons ?_ (.cons ?_ (.cons ?_ (.cons ?_ (.cons ?_ (.cons ?_ (.cons ?_ (.cons ?_ (.cons ?_ (.cons ?_ (.cons ?_ (.nil)))))))))))))))))))))
    · intro fa fw hx hs hb
      have s15 : fa.tmps[(15 : Nat)]? = some (S (67 :: r)) := (hb 15 (by kernel_rfl)).trans (by rfl)
      refine .inl ⟨wanted_free rfl, fun K hK => ?_⟩
      clear hs hb hx
      go_simp
      exact hK _ _ rfl (Ext.refl _)
    · intro fa fw hx hs hb
      obtain ⟨_, s67, rfl⟩ := hs 0 67 (by kernel_rfl) (by kernel_rfl)
      refine .inl ⟨wanted_free rfl, fun K hK => ?_⟩
      clear hs hb
      go_simp
      exact hK _ _ rfl (Ext.refl _)
    · intro fa fw hx hs hb
      obtain ⟨_, s68, rfl⟩ := hs 1 68 (by kernel_rfl) (by kernel_rfl)
      refine .inl ⟨wanted_free rfl, fun K hK => ?_⟩
      clear hs hb hx
      go_simp
      exact hK _ _ rfl (Ext.refl _)
    · intro fa fw hx hs hb
      obtain ⟨_, s69, rfl⟩ := hs 2 69 (by kernel_rfl) (by kernel_rfl)
      have s15 : fa.tmps[(15 : Nat)]? = some (S (67 :: r)) := (hb 15 (by kernel_rfl)).trans (by rfl)
      refine .inl ⟨wanted_yes 2 false 69 rfl (by kernel_rfl) s69, fun K hK => ?_⟩
      clear hs hb hx
      go_simp
      exact hK _ _ rfl (Ext.refl _)
    · intro fa fw hx hs hb
      obtain ⟨_, s69, rfl⟩ := hs 2 69 (by kernel_rfl) (by kernel_rfl)
      obtain ⟨_, s70, rfl⟩ := hs 3 70 (by kernel_rfl) (by kernel_rfl)
      refine .inl ⟨wanted_yes 2 false 69 rfl (by kernel_rfl) s69, fun K hK => ?_⟩
      clear hs hb
      go_simp
      exact hK _ _ rfl (Ext.refl _)
    · intro fa fw hx hs hb
      obtain ⟨_, s69, rfl⟩ := hs 2 69 (by kernel_rfl) (by kernel_rfl)
      have s13 : fa.tmps[(13 : Nat)]? = some (.slice (some ⟨w.heap.size + 1 + 1 + 1, 0, none⟩) 4 4) := (hb 13 (by kernel_rfl)).trans (by rfl)
      refine .inl ⟨wanted_yes 2 false 69 rfl (by kernel_rfl) s69, fun K hK => ?_⟩
      clear hs hb hx
      go_simp
      exact hK _ _ rfl (Ext.refl _)
    · intro fa fw hx hs hb
      obtain ⟨_, s69, rfl⟩ := hs 2 69 (by kernel_rfl) (by kernel_rfl)
      have s14 : fa.tmps[(14 : Nat)]? = some (.int .i64 0) := (hb 14 (by kernel_rfl)).trans (by rfl)
      refine .inl ⟨wanted_yes 2 false 69 rfl (by kernel_rfl) s69, fun K hK => ?_⟩
      clear hs hb hx
      go_simp
      exact hK _ _ rfl (Ext.refl _)
    · intro fa fw hx hs hb
      obtain ⟨_, s69, rfl⟩ := hs 2 69 (by kernel_rfl) (by kernel_rfl)
      obtain ⟨_, s72, rfl⟩ := hs 5 72 (by kernel_rfl) (by kernel_rfl)
      obtain ⟨_, s73, rfl⟩ := hs 6 73 (by kernel_rfl) (by kernel_rfl)
      refine .inl ⟨wanted_yes 2 false 69 rfl (by kernel_rfl) s69, fun K hK => ?_⟩
      clear hs hb hx
      go_simp
      exact hK _ _ rfl (Ext.refl _)
    · intro fa fw hx hs hb
      obtain ⟨_, s69, rfl⟩ := hs 2 69 (by kernel_rfl) (by kernel_rfl)
      obtain ⟨_, s74, rfl⟩ := hs 7 74 (by kernel_rfl) (by kernel_rfl)
      have c0 := hx.keeps _ _ F0.out
      refine .inl ⟨wanted_yes 2 false 69 rfl (by kernel_rfl) s69, fun K hK => ?_⟩
      clear hs hb hx
      go_simp
      exact hK _ _ rfl (Ext.refl _)
    · intro fa fw hx hs hb
      obtain ⟨_, s69, rfl⟩ := hs 2 69 (by kernel_rfl) (by kernel_rfl)
      obtain ⟨_, s71, rfl⟩ := hs 4 71 (by kernel_rfl) (by kernel_rfl)
      obtain ⟨_, s75, rfl⟩ := hs 8 75 (by kernel_rfl) (by kernel_rfl)
      refine .inl ⟨wanted_yes 2 false 69 rfl (by kernel_rfl) s69, fun K hK => ?_⟩
      clear hs hb
      go_simp
      exact hK _ _ rfl (Ext.refl _)
    · intro fa fw hx hs hb
      obtain ⟨_, s69, rfl⟩ := hs 2 69 (by kernel_rfl) (by kernel_rfl)
      obtain ⟨_, s76, rfl⟩ := hs 9 76 (by kernel_rfl) (by kernel_rfl)
      refine .inl ⟨wanted_free rfl, fun K hK => ?_⟩
      clear hs hb hx
      go_simp
      exact hK _ _ rfl (Ext.refl _)
    · intro fa fw hx hs hb
      obtain ⟨_, s77, rfl⟩ := hs 10 77 (by kernel_rfl) (by kernel_rfl)
      refine .inl ⟨wanted_free rfl, fun K hK => ?_⟩
      clear hs hb hx
      go_simp
      exact hK _ _ rfl (Ext.refl _)
    · intro fa fw hx hs hb
      obtain ⟨_, s78, rfl⟩ := hs 11 78 (by kernel_rfl) (by kernel_rfl)
      have s15 : fa.tmps[(15 : Nat)]? = some (S (67 :: r)) := (hb 15 (by kernel_rfl)).trans (by rfl)
      refine .inl ⟨wanted_yes 11 false 78 rfl (by kernel_rfl) s78, fun K hK => ?_⟩
      clear hs hb hx
      go_simp
      exact hK _ _ rfl (Ext.refl _)
    · intro fa fw hx hs hb
      obtain ⟨_, s78, rfl⟩ := hs 11 78 (by kernel_rfl) (by kernel_rfl)
      obtain ⟨_, s79, rfl⟩ := hs 12 79 (by kernel_rfl) (by kernel_rfl)
      refine .inl ⟨wanted_yes 11 false 78 rfl (by kernel_rfl) s78, fun K hK => ?_⟩
      clear hs hb
      go_simp
      exact hK _ _ rfl (Ext.refl _)
    · intro fa fw hx hs hb
      obtain ⟨_, s78, rfl⟩ := hs 11 78 (by kernel_rfl) (by kernel_rfl)
      have s13 : fa.tmps[(13 : Nat)]? = some (.slice (some ⟨w.heap.size + 1 + 1 + 1, 0, none⟩) 4 4) := (hb 13 (by kernel_rfl)).trans (by rfl)
      refine .inl ⟨wanted_yes 11 false 78 rfl (by kernel_rfl) s78, fun K hK => ?_⟩
      clear hs hb hx
      go_simp
      exact hK _ _ rfl (Ext.refl _)
    · intro fa fw hx hs hb
      obtain ⟨_, s78, rfl⟩ := hs 11 78 (by kernel_rfl) (by kernel_rfl)
      have s14 : fa.tmps[(14 : Nat)]? = some (.int .i64 0) := (hb 14 (by kernel_rfl)).trans (by rfl)
      refine .inl ⟨wanted_yes 11 false 78 rfl (by kernel_rfl) s78, fun K hK => ?_⟩
      clear hs hb hx
      go_simp
      exact hK _ _ rfl (Ext.refl _)
    · intro fa fw hx hs hb
      obtain ⟨_, s78, rfl⟩ := hs 11 78 (by kernel_rfl) (by kernel_rfl)
      obtain ⟨_, s81, rfl⟩ := hs 14 81 (by kernel_rfl) (by kernel_rfl)
      obtain ⟨_, s82, rfl⟩ := hs 15 82 (by kernel_rfl) (by kernel_rfl)
      refine .inl ⟨wanted_yes 11 false 78 rfl (by kernel_rfl) s78, fun K hK => ?_⟩
      clear hs hb hx
      go_simp
      exact hK _ _ rfl (Ext.refl _)
    · intro fa fw hx hs hb
      obtain ⟨_, s78, rfl⟩ := hs 11 78 (by kernel_rfl) (by kernel_rfl)
      obtain ⟨_, s83, rfl⟩ := hs 16 83 (by kernel_rfl) (by kernel_rfl)
      have c0 := hx.keeps _ _ F0.out
      refine .inl ⟨wanted_yes 11 false 78 rfl (by kernel_rfl) s78, fun K hK => ?_⟩
      clear hs hb hx
      go_simp
      exact hK _ _ rfl (Ext.refl _)
    · intro fa fw hx hs hb
      obtain ⟨_, s78, rfl⟩ := hs 11 78 (by kernel_rfl) (by kernel_rfl)
      obtain ⟨_, s84, rfl⟩ := hs 17 84 (by kernel_rfl) (by kernel_rfl)
      refine .inl ⟨wanted_yes 11 false 78 rfl (by kernel_rfl) s78, fun K hK => ?_⟩
      clear hs hb
      go_simp
      exact hK _ _ rfl (Ext.refl _)
    · intro fa fw hx hs hb
      obtain ⟨_, s78, rfl⟩ := hs 11 78 (by kernel_rfl) (by kernel_rfl)
      obtain ⟨_, s80, rfl⟩ := hs 13 80 (by kernel_rfl) (by kernel_rfl)
      obtain ⟨_, s85, rfl⟩ := hs 18 85 (by kernel_rfl) (by kernel_rfl)
      refine .inl ⟨wanted_yes 11 false 78 rfl (by kernel_rfl) s78, fun K hK => ?_⟩
      clear hs hb
      go_simp
      exact hK _ _ rfl (Ext.refl _)
    · intro fa fw hx hs hb
      obtain ⟨_, s78, rfl⟩ := hs 11 78 (by kernel_rfl) (by kernel_rfl)
      obtain ⟨_, s86, rfl⟩ := hs 19 86 (by kernel_rfl) (by kernel_rfl)
      refine .inl ⟨wanted_free rfl, fun K hK => ?_⟩
      clear hs hb hx
      go_simp
      exact hK _ _ rfl (Ext.refl _)
  case rest =>
    intro w2 hxw2
    rintro _ rfl
    rintro _ rfl
    rintro _ rfl
    rintro _ rfl
    rintro _ rfl
    rintro _ rfl
    rintro _ rfl
    rintro _ rfl
    rintro _ rfl
    rintro _ rfl
    rintro _ rfl
    rintro _ rfl
    rintro _ rfl
    rintro _ rfl
    rintro _ rfl
    rintro _ rfl
    rintro _ rfl
    rintro _ rfl
    rintro _ rfl
    rintro _ rfl
    rintro _ rfl
    simp only [putAll, List.take, Act.put, List.setIfInBounds_toArray, List.set_cons_zero, List.set_cons_succ]
    refine wpAny_done (by kernel_rfl) ?_ _
    go_wp2_with fail
    have F1 := Lib.hid (hxw2.keeps _ _ F0.out); have E1 := Lib.hid (hxw2.keeps _ _ e0)
    refine wp_flow3 14 1 [isV (.slice (some ⟨w.heap.size + 1 + 1, 0, none⟩) 4 4), isV (.int .i64 0), isV (.pointer (some ⟨w.heap.size + 1 + 1, 0, none⟩)), isV (.int .i64 3), isV (S (67 :: r)), isV (.int .u8 67), isV (.slice (some ⟨w.heap.size + 1 + 1 + 1, 0, none⟩) 4 4), isV (.int .i64 0), isV (.pointer (some ⟨w.heap.size + 1 + 1 + 1, 0, none⟩)), isV (.int .u8 65), isV (.int .u8 2), isV (.int .i64 2), isV (.agg #[.int .i64 3, .int .i64 2]), fun v w => ∃ b, v = .pointer (some ⟨b, 0, none⟩) ∧ w2.heap.size ≤ b ∧ w.cell? ⟨b, 0, none⟩ = some (I 0) ∧ w.cell? ⟨b, 1, none⟩ = some (I 0) ∧ w.frozen? ⟨b, 0, none⟩ = false ∧ w.frozen? ⟨b, 1, none⟩ = false] (by kernel_rfl) rfl rfl (by kernel_rfl) (by kernel_rfl) ⟨isV_mono, isV_mono, isV_mono, isV_mono, isV_mono, isV_mono, isV_mono, isV_mono, isV_mono, isV_mono, isV_mono, isV_mono, isV_mono, fun v w w' ⟨b, e, h0, h1, h2, h3, h4⟩ hx => ⟨b, e, h0, hx.keeps _ _ h1, hx.keeps _ _ h2, (Below.frozen (p := ⟨b, 0, none⟩) hx (lt_of_cell h1)).trans h3, (Below.frozen (p := ⟨b, 1, none⟩) hx (lt_of_cell h2)).trans h4⟩, trivial⟩ ?each ?rest
    case each =>
      refine .cons ?_ (.cons ?_ (.cons ?_ (.cons ?_ (.cons ?_ (.cons ?_ (.cons ?_ (.cons ?_ (.cons ?_ (.cons ?_ (.cons ?_ (.cons ?_ (.cons ?_ (.cons ?_ (.nil))))))))))))))
      · intro fa fw hx hs hb
        have s12 : fa.tmps[(12 : Nat)]? = some (.slice (some ⟨w.heap.size + 1 + 1, 0, none⟩) 4 4) := (hb 12 (by kernel_rfl)).trans (by rfl)
        refine .inl ⟨wanted_free rfl, fun K hK => ?_⟩
        clear hs hb hx
        go_simp
        exact hK _ _ rfl (Ext.refl _)
      · intro fa fw hx hs hb
        have s14 : fa.tmps[(14 : Nat)]? = some (.int .i64 0) := (hb 14 (by kernel_rfl)).trans (by rfl)
        refine .inl ⟨wanted_free rfl, fun K hK => ?_⟩
        clear hs hb hx
        go_simp
        exact hK _ _ rfl (Ext.refl _)
      · intro fa fw hx hs hb
        obtain ⟨_, s89, rfl⟩ := hs 0 89 (by kernel_rfl) (by kernel_rfl)
        obtain ⟨_, s90, rfl⟩ := hs 1 90 (by kernel_rfl) (by kernel_rfl)
        refine .inl ⟨wanted_free rfl, fun K hK => ?_⟩
        clear hs hb hx
        go_simp
        exact hK _ _ rfl (Ext.refl _)
      · intro fa fw hx hs hb
        obtain ⟨_, s91, rfl⟩ := hs 2 91 (by kernel_rfl) (by kernel_rfl)
        have c0 := hx.keeps _ _ E1.out
        refine .inl ⟨wanted_free rfl, fun K hK => ?_⟩
        clear hs hb hx
        go_simp
        exact hK _ _ rfl (Ext.refl _)
      · intro fa fw hx hs hb
        have s15 : fa.tmps[(15 : Nat)]? = some (S (67 :: r)) := (hb 15 (by kernel_rfl)).trans (by rfl)
        refine .inl ⟨wanted_free rfl, fun K hK => ?_⟩
        clear hs hb hx
        go_simp
        exact hK _ _ rfl (Ext.refl _)
      · intro fa fw hx hs hb
        obtain ⟨_, s93, rfl⟩ := hs 4 93 (by kernel_rfl) (by kernel_rfl)
        refine .inl ⟨wanted_free rfl, fun K hK => ?_⟩
        clear hs hb
        go_simp
        exact hK _ _ rfl (Ext.refl _)
      · intro fa fw hx hs hb
        have s13 : fa.tmps[(13 : Nat)]? = some (.slice (some ⟨w.heap.size + 1 + 1 + 1, 0, none⟩) 4 4) := (hb 13 (by kernel_rfl)).trans (by rfl)
        refine .inl ⟨wanted_free rfl, fun K hK => ?_⟩
        clear hs hb hx
        go_simp
        exact hK _ _ rfl (Ext.refl _)
      · intro fa fw hx hs hb
        have s14 : fa.tmps[(14 : Nat)]? = some (.int .i64 0) := (hb 14 (by kernel_rfl)).trans (by rfl)
        refine .inl ⟨wanted_free rfl, fun K hK => ?_⟩
        clear hs hb hx
        go_simp
        exact hK _ _ rfl (Ext.refl _)
      · intro fa fw hx hs hb
        obtain ⟨_, s95, rfl⟩ := hs 6 95 (by kernel_rfl) (by kernel_rfl)
        obtain ⟨_, s96, rfl⟩ := hs 7 96 (by kernel_rfl) (by kernel_rfl)
        refine .inl ⟨wanted_free rfl, fun K hK => ?_⟩
        clear hs hb hx
        go_simp
        exact hK _ _ rfl (Ext.refl _)
      · intro fa fw hx hs hb
        obtain ⟨_, s97, rfl⟩ := hs 8 97 (by kernel_rfl) (by kernel_rfl)
        have c0 := hx.keeps _ _ F1.out
        refine .inl ⟨wanted_free rfl, fun K hK => ?_⟩
        clear hs hb hx
        go_simp
        exact hK _ _ rfl (Ext.refl _)
      · intro fa fw hx hs hb
        obtain ⟨_, s94, rfl⟩ := hs 5 94 (by kernel_rfl) (by kernel_rfl)
        obtain ⟨_, s98, rfl⟩ := hs 9 98 (by kernel_rfl) (by kernel_rfl)
        refine .inl ⟨wanted_free rfl, fun K hK => ?_⟩
        clear hs hb
        go_simp
        exact hK _ _ rfl (Ext.refl _)
      · intro fa fw hx hs hb
        obtain ⟨_, s99, rfl⟩ := hs 10 99 (by kernel_rfl) (by kernel_rfl)
        refine .inl ⟨wanted_free rfl, fun K hK => ?_⟩
        clear hs hb
        go_simp
        exact hK _ _ rfl (Ext.refl _)
      · intro fa fw hx hs hb
        obtain ⟨_, s92, rfl⟩ := hs 3 92 (by kernel_rfl) (by kernel_rfl)
        obtain ⟨_, s100, rfl⟩ := hs 11 100 (by kernel_rfl) (by kernel_rfl)
        refine .inl ⟨wanted_free rfl, fun K hK => ?_⟩
        clear hs hb
        go_simp
        exact hK _ _ rfl (Ext.refl _)
      · intro fa fw hx hs hb
        refine .inl ⟨wanted_free rfl, fun K hK => ?_⟩
        clear hs hb
        go_simp
        exact hK _ _ ⟨_, rfl, hx.size, by rw [World.cell?_alloc_new]; rfl, by rw [World.cell?_alloc_new]; rfl, World.frozen?_alloc_at _ _ _ _ rfl, World.frozen?_alloc_at _ _ _ _ rfl⟩ ((Ext.refl _).alloc _)
    case rest =>
      intro w3 hxw3
      rintro _ rfl
      rintro _ rfl
      rintro _ rfl
      rintro _ rfl
      rintro _ rfl
      rintro _ rfl
      rintro _ rfl
      rintro _ rfl
      rintro _ rfl
      rintro _ rfl
      rintro _ rfl
      rintro _ rfl
      rintro _ rfl
      rintro _ ⟨b17, rfl, q17⟩
      simp only [putAll, List.take, Act.put, List.setIfInBounds_toArray, List.set_cons_zero, List.set_cons_succ]
      obtain ⟨qb0, qb1, qb2, qb3, qb4⟩ := q17
      refine wpAny_ready (rs := [14]) (by kernel_rfl) (by simp) (AllReady.cons rfl (fun KK hKK => ?_) AllReady.nil)
      go_simp
      refine hKK _ _ ?_
      clear hKK KK
      refine wpAny_done (by kernel_rfl) ?_ _
      have k0 : ((w3.setCell ⟨b17, 0, none⟩ (.int .i64 3)).setCell ⟨b17, 1, none⟩ (.int .i64 2)).cell? ⟨b17, 0, none⟩ = some (.int .i64 3) := (World.cell?_setCell_other _ _ _ _ (by simp)).trans (World.cell?_setCell_same _ _ _ qb1)
      have k1 : ((w3.setCell ⟨b17, 0, none⟩ (.int .i64 3)).setCell ⟨b17, 1, none⟩ (.int .i64 2)).cell? ⟨b17, 1, none⟩ = some (.int .i64 2) := World.cell?_setCell_same _ _ _ ((World.cell?_setCell_other _ _ _ _ (by simp)).trans qb2)
      have x4 : Ext w ((w3.setCell ⟨b17, 0, none⟩ (.int .i64 3)).setCell ⟨b17, 1, none⟩ (.int .i64 2)) := (((xf.trans hxw2).trans hxw3).setCell (by show w.heap.size ≤ b17; have := (xf.trans hxw2).size; omega) _).setCell (by show w.heap.size ≤ b17; have := (xf.trans hxw2).size; omega) _
      generalize (w3.setCell ⟨b17, 0, none⟩ (.int .i64 3)).setCell ⟨b17, 1, none⟩ (.int .i64 2) = w4 at *
      clear qb1 qb2 qb3 qb4
      have hrl : r.length ≤ 5000 := by have := rest_len wEmit s; rw [HQ'.out] at this; simp at this; omega
      go_wp2
      rw [ba_tail1]
      refine bodyPost_ret (v := Pr3 (.slice (some ⟨w4.heap.size, 0, none⟩) 1 1) (S r) (.bool true)) (by simp [results, Tryz.results42, go_sem]) rfl ⟨_, 1, rfl, ?_, by simp [Tr.size], by unfold maxLen; omega, by simp [Tr.size], hrl, x4.alloc _⟩
      exact Sl2.newAt PK PS _ _ [⟨3, 2⟩] _ _ rfl rfl
set_option maxHeartbeats 400000 in
theorem from_w4_nil (w : World) (s : List UInt8) (l : Nat) (hs : s.length ≤ 5000) (hl : l ≤ 13) (hi0 : isP wNothing s = false) (hi1 : isP wPause s = false) (hi2 : isP wHalt s = false) (hi3 : isP wEmit s = false) (hi4 : isP wAwait s = true) (hq : restP wAwait s = []) :
    Calls Tryz.prog 42 #[S s, I ((l : Int) + 1)] w fun e w' => ∃ u v, e = .returned (Pr3 u v (.bool false)) ∧ Ext w w' := by
  have hr := True.intro
  have HI0 := Lib.hid hi0; clear hi0
  have HI1 := Lib.hid hi1; clear hi1
  have HI2 := Lib.hid hi2; clear hi2
  have HI3 := Lib.hid hi3; clear hi3
  have HI4 := Lib.hid hi4; clear hi4
  have HQ' := Lib.hid hq; clear hq
  go_enter Tryz.func42, Tryz.ntmps42
  go_wp2_with fail
  refine wp_loop_rounds 4 ?_
  rw [rounds_succ]
  go_wp2_with fail
  refine (after_any s wNothing (by omega) (by decide) _).mono ?_; rintro e w' ⟨rfl, rfl⟩; rw [HI0.out]
  go_wp2_with fail
  rw [rounds_succ]
  go_wp2_with fail
  refine (after_any s wPause (by omega) (by decide) _).mono ?_; rintro e w' ⟨rfl, rfl⟩; rw [HI1.out]
  go_wp2_with fail
  rw [rounds_succ]
  go_wp2_with fail
  refine (after_any s wHalt (by omega) (by decide) _).mono ?_; rintro e w' ⟨rfl, rfl⟩; rw [HI2.out]
  go_wp2_with fail
  rw [rounds_succ]
  go_wp2_with fail
  rw [rfW_eq]
  have d0 := rfW_word w 0 _ rfl
  have d1 := rfW_word w 1 _ rfl
  have d2 := rfW_word w 2 _ rfl
  have d3 := rfW_word w 3 _ rfl
  have e0 := rfW_kind w 1 _ rfl
  have f0 := rfW_first w 1 _ rfl
  have xf := rfW_ext w
  have hsz := rfW_size w
  generalize rfW w = wf at *
  refine wp_loop_rounds 5 ?_
  rw [rounds_succ]
  go_wp2_with fail
  refine (after_any s wEmit (by omega) (by decide) _).mono ?_; rintro e w' ⟨rfl, rfl⟩; rw [HI3.out]
  go_wp2_with fail
  rw [rounds_succ]
  go_hideQ
  go_wp2_with fail
  refine (after_any s wAwait (by omega) (by decide) _).mono ?_; rintro e w' ⟨rfl, rfl⟩; rw [HI4.out]
  rw [HQ'.out]
  go_wp2_with fail
  have F0 := Lib.hid f0
  refine wp_flow3 21 0 [isV (S []), isV (.bool true), isV (.bool true), isV undef, isV undef, isV undef, isV undef, isV undef, isV undef, isV undef, isV (.bool true), isV (.bool true), isV undef, isV undef, isV undef, isV undef, isV undef, isV undef, isV undef, isV undef, isV (.bool true)] (by kernel_rfl) rfl rfl (by kernel_rfl) (by kernel_rfl) ⟨isV_mono, isV_mono, isV_mono, isV_mono, isV_mono, isV_mono, isV_mono, isV_mono, isV_mono, isV_mono, isV_mono, isV_mono, isV_mono, isV_mono, isV_mono, isV_mono, isV_mono, isV_mono, isV_mono, isV_mono, isV_mono, trivial⟩ ?each ?rest
  case each =>
    refine .cons ?_ (.cons ?_ (.cons ?_ (.cons ?_ (.cons ?_ (.cons ?_ (.cons ?_ (.cons ?_ (.cons ?_ (.cons ?_ (.cons ?_ (.cons ?_ (.cons ?_ (.cons ?_ (.cons ?_ (.cons ?_ (.cons ?_ (.cons ?_ (.cons ?_ (.cons ?_ (.cons ?_ (.nil)))))))))))))))))))))
    · intro fa fw hx hs hb
      have s15 : fa.tmps[(15 : Nat)]? = some (S []) := (hb 15 (by kernel_rfl)).trans (by rfl)
      refine .inl ⟨wanted_free rfl, fun K hK => ?_⟩
      clear hs hb hx
      go_simp
      exact hK _ _ rfl (Ext.refl _)
    · intro fa fw hx hs hb
      obtain ⟨_, s67, rfl⟩ := hs 0 67 (by kernel_rfl) (by kernel_rfl)
      refine .inl ⟨wanted_free rfl, fun K hK => ?_⟩
      clear hs hb
      go_simp
      exact hK _ _ rfl (Ext.refl _)
    · intro fa fw hx hs hb
      obtain ⟨_, s68, rfl⟩ := hs 1 68 (by kernel_rfl) (by kernel_rfl)
      refine .inl ⟨wanted_free rfl, fun K hK => ?_⟩
      clear hs hb hx
      go_simp
      exact hK _ _ rfl (Ext.refl _)
    · intro fa fw hx hs hb
      obtain ⟨_, s69, rfl⟩ := hs 2 69 (by kernel_rfl) (by kernel_rfl)
      exact .inr ⟨wanted_no 2 false 69 rfl (by kernel_rfl) s69, rfl⟩
    · intro fa fw hx hs hb
      obtain ⟨_, s69, rfl⟩ := hs 2 69 (by kernel_rfl) (by kernel_rfl)
      exact .inr ⟨wanted_no 2 false 69 rfl (by kernel_rfl) s69, rfl⟩
    · intro fa fw hx hs hb
      obtain ⟨_, s69, rfl⟩ := hs 2 69 (by kernel_rfl) (by kernel_rfl)
      exact .inr ⟨wanted_no 2 false 69 rfl (by kernel_rfl) s69, rfl⟩
    · intro fa fw hx hs hb
      obtain ⟨_, s69, rfl⟩ := hs 2 69 (by kernel_rfl) (by kernel_rfl)
      exact .inr ⟨wanted_no 2 false 69 rfl (by kernel_rfl) s69, rfl⟩
    · intro fa fw hx hs hb
      obtain ⟨_, s69, rfl⟩ := hs 2 69 (by kernel_rfl) (by kernel_rfl)
      exact .inr ⟨wanted_no 2 false 69 rfl (by kernel_rfl) s69, rfl⟩
    · intro fa fw hx hs hb
      obtain ⟨_, s69, rfl⟩ := hs 2 69 (by kernel_rfl) (by kernel_rfl)
      exact .inr ⟨wanted_no 2 false 69 rfl (by kernel_rfl) s69, rfl⟩
    · intro fa fw hx hs hb
      obtain ⟨_, s69, rfl⟩ := hs 2 69 (by kernel_rfl) (by kernel_rfl)
      exact .inr ⟨wanted_no 2 false 69 rfl (by kernel_rfl) s69, rfl⟩
    · intro fa fw hx hs hb
      obtain ⟨_, s69, rfl⟩ := hs 2 69 (by kernel_rfl) (by kernel_rfl)
      obtain ⟨_, s76, rfl⟩ := hs 9 76 (by kernel_rfl) (by kernel_rfl)
      refine .inl ⟨wanted_free rfl, fun K hK => ?_⟩
      clear hs hb hx
      go_simp
      exact hK _ _ rfl (Ext.refl _)
    · intro fa fw hx hs hb
      obtain ⟨_, s77, rfl⟩ := hs 10 77 (by kernel_rfl) (by kernel_rfl)
      refine .inl ⟨wanted_free rfl, fun K hK => ?_⟩
      clear hs hb hx
      go_simp
      exact hK _ _ rfl (Ext.refl _)
    · intro fa fw hx hs hb
      obtain ⟨_, s78, rfl⟩ := hs 11 78 (by kernel_rfl) (by kernel_rfl)
      exact .inr ⟨wanted_no 11 false 78 rfl (by kernel_rfl) s78, rfl⟩
    · intro fa fw hx hs hb
      obtain ⟨_, s78, rfl⟩ := hs 11 78 (by kernel_rfl) (by kernel_rfl)
      exact .inr ⟨wanted_no 11 false 78 rfl (by kernel_rfl) s78, rfl⟩
    · intro fa fw hx hs hb
      obtain ⟨_, s78, rfl⟩ := hs 11 78 (by kernel_rfl) (by kernel_rfl)
      exact .inr ⟨wanted_no 11 false 78 rfl (by kernel_rfl) s78, rfl⟩
    · intro fa fw hx hs hb
      obtain ⟨_, s78, rfl⟩ := hs 11 78 (by kernel_rfl) (by kernel_rfl)
      exact .inr ⟨wanted_no 11 false 78 rfl (by kernel_rfl) s78, rfl⟩
    · intro fa fw hx hs hb
      obtain ⟨_, s78, rfl⟩ := hs 11 78 (by kernel_rfl) (by kernel_rfl)
      exact .inr ⟨wanted_no 11 false 78 rfl (by kernel_rfl) s78, rfl⟩
    · intro fa fw hx hs hb
      obtain ⟨_, s78, rfl⟩ := hs 11 78 (by kernel_rfl) (by kernel_rfl)
      exact .inr ⟨wanted_no 11 false 78 rfl (by kernel_rfl) s78, rfl⟩
    · intro fa fw hx hs hb
      obtain ⟨_, s78, rfl⟩ := hs 11 78 (by kernel_rfl) (by kernel_rfl)
      exact .inr ⟨wanted_no 11 false 78 rfl (by kernel_rfl) s78, rfl⟩
    · intro fa fw hx hs hb
      obtain ⟨_, s78, rfl⟩ := hs 11 78 (by kernel_rfl) (by kernel_rfl)
      exact .inr ⟨wanted_no 11 false 78 rfl (by kernel_rfl) s78, rfl⟩
    · intro fa fw hx hs hb
      obtain ⟨_, s78, rfl⟩ := hs 11 78 (by kernel_rfl) (by kernel_rfl)
      obtain ⟨_, s86, rfl⟩ := hs 19 86 (by kernel_rfl) (by kernel_rfl)
      refine .inl ⟨wanted_free rfl, fun K hK => ?_⟩
      clear hs hb hx
      go_simp
      exact hK _ _ rfl (Ext.refl _)
  case rest =>
    intro w2 hxw2
    rintro _ rfl
    rintro _ rfl
    rintro _ rfl
    rintro _ rfl
    rintro _ rfl
    rintro _ rfl
    rintro _ rfl
    rintro _ rfl
    rintro _ rfl
    rintro _ rfl
    rintro _ rfl
    rintro _ rfl
    rintro _ rfl
    rintro _ rfl
    rintro _ rfl
    rintro _ rfl
    rintro _ rfl
    rintro _ rfl
    rintro _ rfl
    rintro _ rfl
    rintro _ rfl
    simp only [putAll, List.take, Act.put, List.setIfInBounds_toArray, List.set_cons_zero, List.set_cons_succ]
    refine wpAny_done (by kernel_rfl) ?_ _
    go_wp2
    exact bodyPost_ret (v := Pr3 (.slice none 0 0) (S s) (.bool false)) (by simp [results, Tryz.results42, go_sem]) rfl ⟨_, _, rfl, xf.trans hxw2⟩
set_option maxHeartbeats 400000 in
theorem from_w4_lo (w : World) (s : List UInt8) (l : Nat) (hs : s.length ≤ 5000) (hl : l ≤ 13) (hi0 : isP wNothing s = false) (hi1 : isP wPause s = false) (hi2 : isP wHalt s = false) (hi3 : isP wEmit s = false) (hi4 : isP wAwait s = true) {c : UInt8} {r : List UInt8} (hq : restP wAwait s = c :: r) (hc : c.toNat < 120) :
    Calls Tryz.prog 42 #[S s, I ((l : Int) + 1)] w fun e w' => ∃ u v, e = .returned (Pr3 u v (.bool false)) ∧ Ext w w' := by
  have hr := True.intro
  have HC := Lib.hid hc; clear hc
  have HI0 := Lib.hid hi0; clear hi0
  have HI1 := Lib.hid hi1; clear hi1
  have HI2 := Lib.hid hi2; clear hi2
  have HI3 := Lib.hid hi3; clear hi3
  have HI4 := Lib.hid hi4; clear hi4
  have HQ' := Lib.hid hq; clear hq
  go_enter Tryz.func42, Tryz.ntmps42
  go_wp2_with fail
  refine wp_loop_rounds 4 ?_
  rw [rounds_succ]
  go_wp2_with fail
  refine (after_any s wNothing (by omega) (by decide) _).mono ?_; rintro e w' ⟨rfl, rfl⟩; rw [HI0.out]
  go_wp2_with fail
  rw [rounds_succ]
  go_wp2_with fail
  refine (after_any s wPause (by omega) (by decide) _).mono ?_; rintro e w' ⟨rfl, rfl⟩; rw [HI1.out]
  go_wp2_with fail
  rw [rounds_succ]
  go_wp2_with fail
  refine (after_any s wHalt (by omega) (by decide) _).mono ?_; rintro e w' ⟨rfl, rfl⟩; rw [HI2.out]
  go_wp2_with fail
  rw [rounds_succ]
  go_wp2_with fail
  rw [rfW_eq]
  have d0 := rfW_word w 0 _ rfl
  have d1 := rfW_word w 1 _ rfl
  have d2 := rfW_word w 2 _ rfl
  have d3 := rfW_word w 3 _ rfl
  have e0 := rfW_kind w 1 _ rfl
  have f0 := rfW_first w 1 _ rfl
  have xf := rfW_ext w
  have hsz := rfW_size w
  generalize rfW w = wf at *
  refine wp_loop_rounds 5 ?_
  rw [rounds_succ]
  go_wp2_with fail
  refine (after_any s wEmit (by omega) (by decide) _).mono ?_; rintro e w' ⟨rfl, rfl⟩; rw [HI3.out]
  go_wp2_with fail
  rw [rounds_succ]
  go_hideQ
  go_wp2_with fail
  refine (after_any s wAwait (by omega) (by decide) _).mono ?_; rintro e w' ⟨rfl, rfl⟩; rw [HI4.out]
  rw [HQ'.out]
  go_wp2_with fail
  have F0 := Lib.hid f0
  refine wp_flow3 21 0 [isV (S (c :: r)), isV (.bool false), isV (.bool false), isV (S (c :: r)), isV (.int .u8 c.toNat), isV (.slice (some ⟨w.heap.size + 1 + 1 + 1, 0, none⟩) 4 4), isV (.int .i64 1), isV (.pointer (some ⟨w.heap.size + 1 + 1 + 1, 1, none⟩)), isV (.int .u8 120), isV (.bool true), isV (.bool true), isV (.bool true), isV undef, isV undef, isV undef, isV undef, isV undef, isV undef, isV undef, isV undef, isV (.bool true)] (by kernel_rfl) rfl rfl (by kernel_rfl) (by kernel_rfl) ⟨isV_mono, isV_mono, isV_mono, isV_mono, isV_mono, isV_mono, isV_mono, isV_mono, isV_mono, isV_mono, isV_mono, isV_mono, isV_mono, isV_mono, isV_mono, isV_mono, isV_mono, isV_mono, isV_mono, isV_mono, isV_mono, trivial⟩ ?each ?rest
  case each =>
    refine .cons ?_ (.cons ?_ (.cons ?_ (.cons ?_ (.cons ?_ (.cons ?_ (.cons ?_ (.cons ?_ (.cons ?_ (.cons ?_ (.cons ?_ (.cons ?_ (.cons ?_ (.cons ?_ (.cons ?_ (.cons ?_ (.cons ?_ (.cons ?_ (.cons ?_ (.cons ?_ (.cons ?_ (.nil)))))))))))))))))))))
    · intro fa fw hx hs hb
      have s15 : fa.tmps[(15 : Nat)]? = some (S (c :: r)) := (hb 15 (by kernel_rfl)).trans (by rfl)
      refine .inl ⟨wanted_free rfl, fun K hK => ?_⟩
      clear hs hb hx
      go_simp
      exact hK _ _ rfl (Ext.refl _)
    · intro fa fw hx hs hb
      obtain ⟨_, s67, rfl⟩ := hs 0 67 (by kernel_rfl) (by kernel_rfl)
      refine .inl ⟨wanted_free rfl, fun K hK => ?_⟩
      clear hs hb
      go_simp
      exact hK _ _ rfl (Ext.refl _)
    · intro fa fw hx hs hb
      obtain ⟨_, s68, rfl⟩ := hs 1 68 (by kernel_rfl) (by kernel_rfl)
      refine .inl ⟨wanted_free rfl, fun K hK => ?_⟩
      clear hs hb hx
      go_simp
      exact hK _ _ rfl (Ext.refl _)
    · intro fa fw hx hs hb
      obtain ⟨_, s69, rfl⟩ := hs 2 69 (by kernel_rfl) (by kernel_rfl)
      have s15 : fa.tmps[(15 : Nat)]? = some (S (c :: r)) := (hb 15 (by kernel_rfl)).trans (by rfl)
      refine .inl ⟨wanted_yes 2 false 69 rfl (by kernel_rfl) s69, fun K hK => ?_⟩
      clear hs hb hx
      go_simp
      exact hK _ _ rfl (Ext.refl _)
    · intro fa fw hx hs hb
      obtain ⟨_, s69, rfl⟩ := hs 2 69 (by kernel_rfl) (by kernel_rfl)
      obtain ⟨_, s70, rfl⟩ := hs 3 70 (by kernel_rfl) (by kernel_rfl)
      refine .inl ⟨wanted_yes 2 false 69 rfl (by kernel_rfl) s69, fun K hK => ?_⟩
      clear hs hb
      go_simp
      exact hK _ _ rfl (Ext.refl _)
    · intro fa fw hx hs hb
      obtain ⟨_, s69, rfl⟩ := hs 2 69 (by kernel_rfl) (by kernel_rfl)
      have s13 : fa.tmps[(13 : Nat)]? = some (.slice (some ⟨w.heap.size + 1 + 1 + 1, 0, none⟩) 4 4) := (hb 13 (by kernel_rfl)).trans (by rfl)
      refine .inl ⟨wanted_yes 2 false 69 rfl (by kernel_rfl) s69, fun K hK => ?_⟩
      clear hs hb hx
      go_simp
      exact hK _ _ rfl (Ext.refl _)
    · intro fa fw hx hs hb
      obtain ⟨_, s69, rfl⟩ := hs 2 69 (by kernel_rfl) (by kernel_rfl)
      have s14 : fa.tmps[(14 : Nat)]? = some (.int .i64 1) := (hb 14 (by kernel_rfl)).trans (by rfl)
      refine .inl ⟨wanted_yes 2 false 69 rfl (by kernel_rfl) s69, fun K hK => ?_⟩
      clear hs hb hx
      go_simp
      exact hK _ _ rfl (Ext.refl _)
    · intro fa fw hx hs hb
      obtain ⟨_, s69, rfl⟩ := hs 2 69 (by kernel_rfl) (by kernel_rfl)
      obtain ⟨_, s72, rfl⟩ := hs 5 72 (by kernel_rfl) (by kernel_rfl)
      obtain ⟨_, s73, rfl⟩ := hs 6 73 (by kernel_rfl) (by kernel_rfl)
      refine .inl ⟨wanted_yes 2 false 69 rfl (by kernel_rfl) s69, fun K hK => ?_⟩
      clear hs hb hx
      go_simp
      exact hK _ _ rfl (Ext.refl _)
    · intro fa fw hx hs hb
      obtain ⟨_, s69, rfl⟩ := hs 2 69 (by kernel_rfl) (by kernel_rfl)
      obtain ⟨_, s74, rfl⟩ := hs 7 74 (by kernel_rfl) (by kernel_rfl)
      have c0 := hx.keeps _ _ F0.out
      refine .inl ⟨wanted_yes 2 false 69 rfl (by kernel_rfl) s69, fun K hK => ?_⟩
      clear hs hb hx
      go_simp
      exact hK _ _ rfl (Ext.refl _)
    · intro fa fw hx hs hb
      obtain ⟨_, s69, rfl⟩ := hs 2 69 (by kernel_rfl) (by kernel_rfl)
      obtain ⟨_, s71, rfl⟩ := hs 4 71 (by kernel_rfl) (by kernel_rfl)
      obtain ⟨_, s75, rfl⟩ := hs 8 75 (by kernel_rfl) (by kernel_rfl)
      refine .inl ⟨wanted_yes 2 false 69 rfl (by kernel_rfl) s69, fun K hK => ?_⟩
      clear hs hb
      have hc := HC.out
      go_simp
      refine hK _ _ (boolV (w := fw) ?_) (Ext.refl _)
      simp; omega
    · intro fa fw hx hs hb
      obtain ⟨_, s69, rfl⟩ := hs 2 69 (by kernel_rfl) (by kernel_rfl)
      obtain ⟨_, s76, rfl⟩ := hs 9 76 (by kernel_rfl) (by kernel_rfl)
      refine .inl ⟨wanted_free rfl, fun K hK => ?_⟩
      clear hs hb hx
      go_simp
      exact hK _ _ rfl (Ext.refl _)
    · intro fa fw hx hs hb
      obtain ⟨_, s77, rfl⟩ := hs 10 77 (by kernel_rfl) (by kernel_rfl)
      refine .inl ⟨wanted_free rfl, fun K hK => ?_⟩
      clear hs hb hx
      go_simp
      exact hK _ _ rfl (Ext.refl _)
    · intro fa fw hx hs hb
      obtain ⟨_, s78, rfl⟩ := hs 11 78 (by kernel_rfl) (by kernel_rfl)
      exact .inr ⟨wanted_no 11 false 78 rfl (by kernel_rfl) s78, rfl⟩
    · intro fa fw hx hs hb
      obtain ⟨_, s78, rfl⟩ := hs 11 78 (by kernel_rfl) (by kernel_rfl)
      exact .inr ⟨wanted_no 11 false 78 rfl (by kernel_rfl) s78, rfl⟩
    · intro fa fw hx hs hb
      obtain ⟨_, s78, rfl⟩ := hs 11 78 (by kernel_rfl) (by kernel_rfl)
      exact .inr ⟨wanted_no 11 false 78 rfl (by kernel_rfl) s78, rfl⟩
    · intro fa fw hx hs hb
      obtain ⟨_, s78, rfl⟩ := hs 11 78 (by kernel_rfl) (by kernel_rfl)
      exact .inr ⟨wanted_no 11 false 78 rfl (by kernel_rfl) s78, rfl⟩
    · intro fa fw hx hs hb
      obtain ⟨_, s78, rfl⟩ := hs 11 78 (by kernel_rfl) (by kernel_rfl)
      exact .inr ⟨wanted_no 11 false 78 rfl (by kernel_rfl) s78, rfl⟩
    · intro fa fw hx hs hb
      obtain ⟨_, s78, rfl⟩ := hs 11 78 (by kernel_rfl) (by kernel_rfl)
      exact .inr ⟨wanted_no 11 false 78 rfl (by kernel_rfl) s78, rfl⟩
    · intro fa fw hx hs hb
      obtain ⟨_, s78, rfl⟩ := hs 11 78 (by kernel_rfl) (by kernel_rfl)
      exact .inr ⟨wanted_no 11 false 78 rfl (by kernel_rfl) s78, rfl⟩
    · intro fa fw hx hs hb
      obtain ⟨_, s78, rfl⟩ := hs 11 78 (by kernel_rfl) (by kernel_rfl)
      exact .inr ⟨wanted_no 11 false 78 rfl (by kernel_rfl) s78, rfl⟩
    · intro fa fw hx hs hb
      obtain ⟨_, s78, rfl⟩ := hs 11 78 (by kernel_rfl) (by kernel_rfl)
      obtain ⟨_, s86, rfl⟩ := hs 19 86 (by kernel_rfl) (by kernel_rfl)
      refine .inl ⟨wanted_free rfl, fun K hK => ?_⟩
      clear hs hb hx
      go_simp
      exact hK _ _ rfl (Ext.refl _)
  case rest =>
    intro w2 hxw2
    rintro _ rfl
    rintro _ rfl
    rintro _ rfl
    rintro _ rfl
    rintro _ rfl
    rintro _ rfl
    rintro _ rfl
    rintro _ rfl
    rintro _ rfl
    rintro _ rfl
    rintro _ rfl
    rintro _ rfl
    rintro _ rfl
    rintro _ rfl
    rintro _ rfl
    rintro _ rfl
    rintro _ rfl
    rintro _ rfl
    rintro _ rfl
    rintro _ rfl
    rintro _ rfl
    simp only [putAll, List.take, Act.put, List.setIfInBounds_toArray, List.set_cons_zero, List.set_cons_succ]
    refine wpAny_done (by kernel_rfl) ?_ _
    go_wp2
    exact bodyPost_ret (v := Pr3 (.slice none 0 0) (S s) (.bool false)) (by simp [results, Tryz.results42, go_sem]) rfl ⟨_, _, rfl, xf.trans hxw2⟩
set_option maxHeartbeats 400000 in
theorem from_w4_hi (w : World) (s : List UInt8) (l : Nat) (hs : s.length ≤ 5000) (hl : l ≤ 13) (hi0 : isP wNothing s = false) (hi1 : isP wPause s = false) (hi2 : isP wHalt s = false) (hi3 : isP wEmit s = false) (hi4 : isP wAwait s = true) {c : UInt8} {r : List UInt8} (hq : restP wAwait s = c :: r) (hc : 122 < c.toNat) :
    Calls Tryz.prog 42 #[S s, I ((l : Int) + 1)] w fun e w' => ∃ u v, e = .returned (Pr3 u v (.bool false)) ∧ Ext w w' := by
  have hr := True.intro
  have HC := Lib.hid hc; clear hc
  have HI0 := Lib.hid hi0; clear hi0
  have HI1 := Lib.hid hi1; clear hi1
  have HI2 := Lib.hid hi2; clear hi2
  have HI3 := Lib.hid hi3; clear hi3
  have HI4 := Lib.hid hi4; clear hi4
  have HQ' := Lib.hid hq; clear hq
  go_enter Tryz.func42, Tryz.ntmps42
  go_wp2_with fail
  refine wp_loop_rounds 4 ?_
  rw [rounds_succ]
  go_wp2_with fail
  refine (after_any s wNothing (by omega) (by decide) _).mono ?_; rintro e w' ⟨rfl, rfl⟩; rw [HI0.out]
  go_wp2_with fail
  rw [rounds_succ]
  go_wp2_with fail
  refine (after_any s wPause (by omega) (by decide) _).mono ?_; rintro e w' ⟨rfl, rfl⟩; rw [HI1.out]
  go_wp2_with fail
  rw [rounds_succ]
  go_wp2_with fail
  refine (after_any s wHalt (by omega) (by decide) _).mono ?_; rintro e w' ⟨rfl, rfl⟩; rw [HI2.out]
  go_wp2_with fail
  rw [rounds_succ]
  go_wp2_with fail
  rw [rfW_eq]
  have d0 := rfW_word w 0 _ rfl
  have d1 := rfW_word w 1 _ rfl
  have d2 := rfW_word w 2 _ rfl
  have d3 := rfW_word w 3 _ rfl
  have e0 := rfW_kind w 1 _ rfl
  have f0 := rfW_first w 1 _ rfl
  have xf := rfW_ext w
  have hsz := rfW_size w
  generalize rfW w = wf at *
  refine wp_loop_rounds 5 ?_
  rw [rounds_succ]
  go_wp2_with fail
  refine (after_any s wEmit (by omega) (by decide) _).mono ?_; rintro e w' ⟨rfl, rfl⟩; rw [HI3.out]
  go_wp2_with fail
  rw [rounds_succ]
  go_hideQ
  go_wp2_with fail
  refine (after_any s wAwait (by omega) (by decide) _).mono ?_; rintro e w' ⟨rfl, rfl⟩; rw [HI4.out]
  rw [HQ'.out]
  go_wp2_with fail
  have F0 := Lib.hid f0
  refine wp_flow3 21 0 [isV (S (c :: r)), isV (.bool false), isV (.bool false), isV (S (c :: r)), isV (.int .u8 c.toNat), isV (.slice (some ⟨w.heap.size + 1 + 1 + 1, 0, none⟩) 4 4), isV (.int .i64 1), isV (.pointer (some ⟨w.heap.size + 1 + 1 + 1, 1, none⟩)), isV (.int .u8 120), isV (.bool false), isV (.bool false), isV (.bool false), isV (S (c :: r)), isV (.int .u8 c.toNat), isV (.slice (some ⟨w.heap.size + 1 + 1 + 1, 0, none⟩) 4 4), isV (.int .i64 1), isV (.pointer (some ⟨w.heap.size + 1 + 1 + 1, 1, none⟩)), isV (.int .u8 120), isV (.int .u8 122), isV (.bool true), isV (.bool true)] (by kernel_rfl) rfl rfl (by kernel_rfl) (by kernel_rfl) ⟨isV_mono, isV_mono, isV_mono, isV_mono, isV_mono, isV_mono, isV_mono, isV_mono, isV_mono, isV_mono, isV_mono, isV_mono, isV_mono, isV_mono, isV_mono, isV_mono, isV_mono, isV_mono, isV_mono, isV_mono, isV_mono, trivial⟩ ?each ?rest
  case each =>
    refine .cons ?_ (.cons ?_ (.cons ?_ (.cons ?_ (.cons ?_ (.cons ?_ (.cons ?_ (.cons ?_ (.cons ?_ (.cons ?_ (.cons ?_ (.cons ?_ (.cons ?_ (.cons ?_ (.cons ?_ (.cons ?_ (.cons ?_ (.cons ?_ (.cons ?_ (.cons ?_ (.cons ?_ (.nil)))))))))))))))))))))
    · intro fa fw hx hs hb
      have s15 : fa.tmps[(15 : Nat)]? = some (S (c :: r)) := (hb 15 (by kernel_rfl)).trans (by rfl)
      refine .inl ⟨wanted_free rfl, fun K hK => ?_⟩
      clear hs hb hx
      go_simp
      exact hK _ _ rfl (Ext.refl _)
    · intro fa fw hx hs hb
      obtain ⟨_, s67, rfl⟩ := hs 0 67 (by kernel_rfl) (by kernel_rfl)
      refine .inl ⟨wanted_free rfl, fun K hK => ?_⟩
      clear hs hb
      go_simp
      exact hK _ _ rfl (Ext.refl _)
    · intro fa fw hx hs hb
      obtain ⟨_, s68, rfl⟩ := hs 1 68 (by kernel_rfl) (by kernel_rfl)
      refine .inl ⟨wanted_free rfl, fun K hK => ?_⟩
      clear hs hb hx
      go_simp
      exact hK _ _ rfl (Ext.refl _)
    · intro fa fw hx hs hb
      obtain ⟨_, s69, rfl⟩ := hs 2 69 (by kernel_rfl) (by kernel_rfl)
      have s15 : fa.tmps[(15 : Nat)]? = some (S (c :: r)) := (hb 15 (by kernel_rfl)).trans (by rfl)
      refine .inl ⟨wanted_yes 2 false 69 rfl (by kernel_rfl) s69, fun K hK => ?_⟩
      clear hs hb hx
      go_simp
      exact hK _ _ rfl (Ext.refl _)
    · intro fa fw hx hs hb
      obtain ⟨_, s69, rfl⟩ := hs 2 69 (by kernel_rfl) (by kernel_rfl)
      obtain ⟨_, s70, rfl⟩ := hs 3 70 (by kernel_rfl) (by kernel_rfl)
      refine .inl ⟨wanted_yes 2 false 69 rfl (by kernel_rfl) s69, fun K hK => ?_⟩
      clear hs hb
      go_simp
      exact hK _ _ rfl (Ext.refl _)
    · intro fa fw hx hs hb
      obtain ⟨_, s69, rfl⟩ := hs 2 69 (by kernel_rfl) (by kernel_rfl)
      have s13 : fa.tmps[(13 : Nat)]? = some (.slice (some ⟨w.heap.size + 1 + 1 + 1, 0, none⟩) 4 4) := (hb 13 (by kernel_rfl)).trans (by rfl)
      refine .inl ⟨wanted_yes 2 false 69 rfl (by kernel_rfl) s69, fun K hK => ?_⟩
      clear hs hb hx
      go_simp
      exact hK _ _ rfl (Ext.refl _)
    · intro fa fw hx hs hb
      obtain ⟨_, s69, rfl⟩ := hs 2 69 (by kernel_rfl) (by kernel_rfl)
      have s14 : fa.tmps[(14 : Nat)]? = some (.int .i64 1) := (hb 14 (by kernel_rfl)).trans (by rfl)
      refine .inl ⟨wanted_yes 2 false 69 rfl (by kernel_rfl) s69, fun K hK => ?_⟩
      clear hs hb hx
      go_simp
      exact hK _ _ rfl (Ext.refl _)
    · intro fa fw hx hs hb
      obtain ⟨_, s69, rfl⟩ := hs 2 69 (by kernel_rfl) (by kernel_rfl)
      obtain ⟨_, s72, rfl⟩ := hs 5 72 (by kernel_rfl) (by kernel_rfl)
      obtain ⟨_, s73, rfl⟩ := hs 6 73 (by kernel_rfl) (by kernel_rfl)
      refine .inl ⟨wanted_yes 2 false 69 rfl (by kernel_rfl) s69, fun K hK => ?_⟩
      clear hs hb hx
      go_simp
      exact hK _ _ rfl (Ext.refl _)
    · intro fa fw hx hs hb
      obtain ⟨_, s69, rfl⟩ := hs 2 69 (by kernel_rfl) (by kernel_rfl)
      obtain ⟨_, s74, rfl⟩ := hs 7 74 (by kernel_rfl) (by kernel_rfl)
      have c0 := hx.keeps _ _ F0.out
      refine .inl ⟨wanted_yes 2 false 69 rfl (by kernel_rfl) s69, fun K hK => ?_⟩
      clear hs hb hx
      go_simp
      exact hK _ _ rfl (Ext.refl _)
    · intro fa fw hx hs hb
      obtain ⟨_, s69, rfl⟩ := hs 2 69 (by kernel_rfl) (by kernel_rfl)
      obtain ⟨_, s71, rfl⟩ := hs 4 71 (by kernel_rfl) (by kernel_rfl)
      obtain ⟨_, s75, rfl⟩ := hs 8 75 (by kernel_rfl) (by kernel_rfl)
      refine .inl ⟨wanted_yes 2 false 69 rfl (by kernel_rfl) s69, fun K hK => ?_⟩
      clear hs hb
      have hc := HC.out
      go_simp
      refine hK _ _ (boolV (w := fw) ?_) (Ext.refl _)
      simp; omega
    · intro fa fw hx hs hb
      obtain ⟨_, s69, rfl⟩ := hs 2 69 (by kernel_rfl) (by kernel_rfl)
      obtain ⟨_, s76, rfl⟩ := hs 9 76 (by kernel_rfl) (by kernel_rfl)
      refine .inl ⟨wanted_free rfl, fun K hK => ?_⟩
      clear hs hb hx
      go_simp
      exact hK _ _ rfl (Ext.refl _)
    · intro fa fw hx hs hb
      obtain ⟨_, s77, rfl⟩ := hs 10 77 (by kernel_rfl) (by kernel_rfl)
      refine .inl ⟨wanted_free rfl, fun K hK => ?_⟩
      clear hs hb hx
      go_simp
      exact hK _ _ rfl (Ext.refl _)
    · intro fa fw hx hs hb
      obtain ⟨_, s78, rfl⟩ := hs 11 78 (by kernel_rfl) (by kernel_rfl)
      have s15 : fa.tmps[(15 : Nat)]? = some (S (c :: r)) := (hb 15 (by kernel_rfl)).trans (by rfl)
      refine .inl ⟨wanted_yes 11 false 78 rfl (by kernel_rfl) s78, fun K hK => ?_⟩
      clear hs hb hx
      go_simp
      exact hK _ _ rfl (Ext.refl _)
    · intro fa fw hx hs hb
      obtain ⟨_, s78, rfl⟩ := hs 11 78 (by kernel_rfl) (by kernel_rfl)
      obtain ⟨_, s79, rfl⟩ := hs 12 79 (by kernel_rfl) (by kernel_rfl)
      refine .inl ⟨wanted_yes 11 false 78 rfl (by kernel_rfl) s78, fun K hK => ?_⟩
      clear hs hb
      go_simp
      exact hK _ _ rfl (Ext.refl _)
    · intro fa fw hx hs hb
      obtain ⟨_, s78, rfl⟩ := hs 11 78 (by kernel_rfl) (by kernel_rfl)
      have s13 : fa.tmps[(13 : Nat)]? = some (.slice (some ⟨w.heap.size + 1 + 1 + 1, 0, none⟩) 4 4) := (hb 13 (by kernel_rfl)).trans (by rfl)
      refine .inl ⟨wanted_yes 11 false 78 rfl (by kernel_rfl) s78, fun K hK => ?_⟩
      clear hs hb hx
      go_simp
      exact hK _ _ rfl (Ext.refl _)
    · intro fa fw hx hs hb
      obtain ⟨_, s78, rfl⟩ := hs 11 78 (by kernel_rfl) (by kernel_rfl)
      have s14 : fa.tmps[(14 : Nat)]? = some (.int .i64 1) := (hb 14 (by kernel_rfl)).trans (by rfl)
      refine .inl ⟨wanted_yes 11 false 78 rfl (by kernel_rfl) s78, fun K hK => ?_⟩
      clear hs hb hx
      go_simp
      exact hK _ _ rfl (Ext.refl _)
    · intro fa fw hx hs hb
      obtain ⟨_, s78, rfl⟩ := hs 11 78 (by kernel_rfl) (by kernel_rfl)
      obtain ⟨_, s81, rfl⟩ := hs 14 81 (by kernel_rfl) (by kernel_rfl)
      obtain ⟨_, s82, rfl⟩ := hs 15 82 (by kernel_rfl) (by kernel_rfl)
      refine .inl ⟨wanted_yes 11 false 78 rfl (by kernel_rfl) s78, fun K hK => ?_⟩
      clear hs hb hx
      go_simp
      exact hK _ _ rfl (Ext.refl _)
    · intro fa fw hx hs hb
      obtain ⟨_, s78, rfl⟩ := hs 11 78 (by kernel_rfl) (by kernel_rfl)
      obtain ⟨_, s83, rfl⟩ := hs 16 83 (by kernel_rfl) (by kernel_rfl)
      have c0 := hx.keeps _ _ F0.out
      refine .inl ⟨wanted_yes 11 false 78 rfl (by kernel_rfl) s78, fun K hK => ?_⟩
      clear hs hb hx
      go_simp
      exact hK _ _ rfl (Ext.refl _)
    · intro fa fw hx hs hb
      obtain ⟨_, s78, rfl⟩ := hs 11 78 (by kernel_rfl) (by kernel_rfl)
      obtain ⟨_, s84, rfl⟩ := hs 17 84 (by kernel_rfl) (by kernel_rfl)
      refine .inl ⟨wanted_yes 11 false 78 rfl (by kernel_rfl) s78, fun K hK => ?_⟩
      clear hs hb
      go_simp
      exact hK _ _ rfl (Ext.refl _)
    · intro fa fw hx hs hb
      obtain ⟨_, s78, rfl⟩ := hs 11 78 (by kernel_rfl) (by kernel_rfl)
      obtain ⟨_, s80, rfl⟩ := hs 13 80 (by kernel_rfl) (by kernel_rfl)
      obtain ⟨_, s85, rfl⟩ := hs 18 85 (by kernel_rfl) (by kernel_rfl)
      refine .inl ⟨wanted_yes 11 false 78 rfl (by kernel_rfl) s78, fun K hK => ?_⟩
      clear hs hb
      have hc := HC.out
      go_simp
      refine hK _ _ (boolV (w := fw) ?_) (Ext.refl _)
      simp; omega
    · intro fa fw hx hs hb
      obtain ⟨_, s78, rfl⟩ := hs 11 78 (by kernel_rfl) (by kernel_rfl)
      obtain ⟨_, s86, rfl⟩ := hs 19 86 (by kernel_rfl) (by kernel_rfl)
      refine .inl ⟨wanted_free rfl, fun K hK => ?_⟩
      clear hs hb hx
      go_simp
      exact hK _ _ rfl (Ext.refl _)
  case rest =>
    intro w2 hxw2
    rintro _ rfl
    rintro _ rfl
    rintro _ rfl
    rintro _ rfl
    rintro _ rfl
    rintro _ rfl
    rintro _ rfl
    rintro _ rfl
    rintro _ rfl
    rintro _ rfl
    rintro _ rfl
    rintro _ rfl
    rintro _ rfl
    rintro _ rfl
    rintro _ rfl
    rintro _ rfl
    rintro _ rfl
    rintro _ rfl
    rintro _ rfl
    rintro _ rfl
    rintro _ rfl
    simp only [putAll, List.take, Act.put, List.setIfInBounds_toArray, List.set_cons_zero, List.set_cons_succ]
    refine wpAny_done (by kernel_rfl) ?_ _
    go_wp2
    exact bodyPost_ret (v := Pr3 (.slice none 0 0) (S s) (.bool false)) (by simp [results, Tryz.results42, go_sem]) rfl ⟨_, _, rfl, xf.trans hxw2⟩
set_option maxHeartbeats 400000 in
theorem from_w4_0 (w : World) (s : List UInt8) (l : Nat) (hs : s.length ≤ 5000) (hl : l ≤ 13) (hi0 : isP wNothing s = false) (hi1 : isP wPause s = false) (hi2 : isP wHalt s = false) (hi3 : isP wEmit s = false) (hi4 : isP wAwait s = true) {r : List UInt8} (hq : restP wAwait s = 120 :: r) :
    Calls Tryz.prog 42 #[S s, I ((l : Int) + 1)] w (FromPost w (l + 1) (some (.leaf ⟨4, 0⟩, r))) := by
  have HI0 := Lib.hid hi0; clear hi0
  have HI1 := Lib.hid hi1; clear hi1
  have HI2 := Lib.hid hi2; clear hi2
  have HI3 := Lib.hid hi3; clear hi3
  have HI4 := Lib.hid hi4; clear hi4
  have HQ' := Lib.hid hq; clear hq
  go_enter Tryz.func42, Tryz.ntmps42
  go_wp2_with fail
  refine wp_loop_rounds 4 ?_
  rw [rounds_succ]
  go_wp2_with fail
  refine (after_any s wNothing (by omega) (by decide) _).mono ?_; rintro e w' ⟨rfl, rfl⟩; rw [HI0.out]
  go_wp2_with fail
  rw [rounds_succ]
  go_wp2_with fail
  refine (after_any s wPause (by omega) (by decide) _).mono ?_; rintro e w' ⟨rfl, rfl⟩; rw [HI1.out]
  go_wp2_with fail
  rw [rounds_succ]
  go_wp2_with fail
  refine (after_any s wHalt (by omega) (by decide) _).mono ?_; rintro e w' ⟨rfl, rfl⟩; rw [HI2.out]
  go_wp2_with fail
  rw [rounds_succ]
  go_wp2_with fail
  rw [rfW_eq]
  have d0 := rfW_word w 0 _ rfl
  have d1 := rfW_word w 1 _ rfl
  have d2 := rfW_word w 2 _ rfl
  have d3 := rfW_word w 3 _ rfl
  have e0 := rfW_kind w 1 _ rfl
  have f0 := rfW_first w 1 _ rfl
  have xf := rfW_ext w
  have hsz := rfW_size w
  generalize rfW w = wf at *
  refine wp_loop_rounds 5 ?_
  rw [rounds_succ]
  go_wp2_with fail
  refine (after_any s wEmit (by omega) (by decide) _).mono ?_; rintro e w' ⟨rfl, rfl⟩; rw [HI3.out]
  go_wp2_with fail
  rw [rounds_succ]
  go_hideQ
  go_wp2_with fail
  refine (after_any s wAwait (by omega) (by decide) _).mono ?_; rintro e w' ⟨rfl, rfl⟩; rw [HI4.out]
  rw [HQ'.out]
  go_wp2_with fail
  have F0 := Lib.hid f0
  refine wp_flow3 21 0 [isV (S (120 :: r)), isV (.bool false), isV (.bool false), isV (S (120 :: r)), isV (.int .u8 120), isV (.slice (some ⟨w.heap.size + 1 + 1 + 1, 0, none⟩) 4 4), isV (.int .i64 1), isV (.pointer (some ⟨w.heap.size + 1 + 1 + 1, 1, none⟩)), isV (.int .u8 120), isV (.bool false), isV (.bool false), isV (.bool false), isV (S (120 :: r)), isV (.int .u8 120), isV (.slice (some ⟨w.heap.size + 1 + 1 + 1, 0, none⟩) 4 4), isV (.int .i64 1), isV (.pointer (some ⟨w.heap.size + 1 + 1 + 1, 1, none⟩)), isV (.int .u8 120), isV (.int .u8 122), isV (.bool false), isV (.bool false)] (by kernel_rfl) rfl rfl (by kernel_rfl) (by kernel_rfl) ⟨isV_mono, isV_mono, isV_mono, isV_mono, isV_mono, isV_mono, isV_mono, isV_mono, isV_mono, isV_mono, isV_mono, isV_mono, isV_mono, isV_mono, isV_mono, isV_mono, isV_mono, isV_mono, isV_mono, isV_mono, isV_mono, trivial⟩ ?each ?rest
  case each =>
    refine .cons ?_ (.cons ?_ (.cons ?_ (.cons ?_ (.cons ?_ (.cons ?_ (.cons ?_ (.cons ?_ (.cons ?_ (.cons ?_ (.cons ?_ (.cons ?_ (.cons ?_ (.cons ?_ (.cons ?_ (.cons ?_ (.cons ?_ (.cons ?_ (.cons ?_ (.cons ?_ (.cons ?_ (.nil)))))))))))))))))))))
    · intro fa fw hx hs hb
      have s15 : fa.tmps[(15 : Nat)]? = some (S (120 :: r)) := (hb 15 (by kernel_rfl)).trans (by rfl)
      refine .inl ⟨wanted_free rfl, fun K hK => ?_⟩
      clear hs hb hx
      go_simp
      exact hK _ _ rfl (Ext.refl _)
    · intro fa fw hx hs hb
      obtain ⟨_, s67, rfl⟩ := hs 0 67 (by kernel_rfl) (by kernel_rfl)
      refine .inl ⟨wanted_free rfl, fun K hK => ?_⟩
      clear hs hb
      go_simp
      exact hK _ _ rfl (Ext.refl _)
    · intro fa fw hx hs hb
      obtain ⟨_, s68, rfl⟩ := hs 1 68 (by kernel_rfl) (by kernel_rfl)
      refine .inl ⟨wanted_free rfl, fun K hK => ?_⟩
      clear hs hb hx
      go_simp
      exact hK _ _ rfl (Ext.refl _)
    · intro fa fw hx hs hb
      obtain ⟨_, s69, rfl⟩ := hs 2 69 (by kernel_rfl) (by kernel_rfl)
      have s15 : fa.tmps[(15 : Nat)]? = some (S (120 :: r)) := (hb 15 (by kernel_rfl)).trans (by rfl)
      refine .inl ⟨wanted_yes 2 false 69 rfl (by kernel_rfl) s69, fun K hK => ?_⟩
      clear hs hb hx
      go_simp
      exact hK _ _ rfl (Ext.refl _)
    · intro fa fw hx hs hb
      obtain ⟨_, s69, rfl⟩ := hs 2 69 (by kernel_rfl) (by kernel_rfl)
      obtain ⟨_, s70, rfl⟩ := hs 3 70 (by kernel_rfl) (by kernel_rfl)
      refine .inl ⟨wanted_yes 2 false 69 rfl (by kernel_rfl) s69, fun K hK => ?_⟩
      clear hs hb
      go_simp
      exact hK _ _ rfl (Ext.refl _)
    · intro fa fw hx hs hb
      obtain ⟨_, s69, rfl⟩ := hs 2 69 (by kernel_rfl) (by kernel_rfl)
      have s13 : fa.tmps[(13 : Nat)]? = some (.slice (some ⟨w.heap.size + 1 + 1 + 1, 0, none⟩) 4 4) := (hb 13 (by kernel_rfl)).trans (by rfl)
      refine .inl ⟨wanted_yes 2 false 69 rfl (by kernel_rfl) s69, fun K hK => ?_⟩
      clear hs hb hx
      go_simp
      exact hK _ _ rfl (Ext.refl _)
    · intro fa fw hx hs hb
      obtain ⟨_, s69, rfl⟩ := hs 2 69 (by kernel_rfl) (by kernel_rfl)
      have s14 : fa.tmps[(14 : Nat)]? = some (.int .i64 1) := (hb 14 (by kernel_rfl)).trans (by rfl)
      refine .inl ⟨wanted_yes 2 false 69 rfl (by kernel_rfl) s69, fun K hK => ?_⟩
      clear hs hb hx
      go_simp
      exact hK _ _ rfl (Ext.refl _)
    · intro fa fw hx hs hb
      obtain ⟨_, s69, rfl⟩ := hs 2 69 (by kernel_rfl) (by kernel_rfl)
      obtain ⟨_, s72, rfl⟩ := hs 5 72 (by kernel_rfl) (by kernel_rfl)
      obtain ⟨_, s73, rfl⟩ := hs 6 73 (by kernel_rfl) (by kernel_rfl)
      refine .inl ⟨wanted_yes 2 false 69 rfl (by kernel_rfl) s69, fun K hK => ?_⟩
      clear hs hb hx
      go_simp
      exact hK _ _ rfl (Ext.refl _)
    · intro fa fw hx hs hb
      obtain ⟨_, s69, rfl⟩ := hs 2 69 (by kernel_rfl) (by kernel_rfl)
      obtain ⟨_, s74, rfl⟩ := hs 7 74 (by kernel_rfl) (by kernel_rfl)
      have c0 := hx.keeps _ _ F0.out
      refine .inl ⟨wanted_yes 2 false 69 rfl (by kernel_rfl) s69, fun K hK => ?_⟩
      clear hs hb hx
      go_simp
      exact hK _ _ rfl (Ext.refl _)
    · intro fa fw hx hs hb
      obtain ⟨_, s69, rfl⟩ := hs 2 69 (by kernel_rfl) (by kernel_rfl)
      obtain ⟨_, s71, rfl⟩ := hs 4 71 (by kernel_rfl) (by kernel_rfl)
      obtain ⟨_, s75, rfl⟩ := hs 8 75 (by kernel_rfl) (by kernel_rfl)
      refine .inl ⟨wanted_yes 2 false 69 rfl (by kernel_rfl) s69, fun K hK => ?_⟩
      clear hs hb
      go_simp
      exact hK _ _ rfl (Ext.refl _)
    · intro fa fw hx hs hb
      obtain ⟨_, s69, rfl⟩ := hs 2 69 (by kernel_rfl) (by kernel_rfl)
      obtain ⟨_, s76, rfl⟩ := hs 9 76 (by kernel_rfl) (by kernel_rfl)
      refine .inl ⟨wanted_free rfl, fun K hK => ?_⟩
      clear hs hb hx
      go_simp
      exact hK _ _ rfl (Ext.refl _)
    · intro fa fw hx hs hb
      obtain ⟨_, s77, rfl⟩ := hs 10 77 (by kernel_rfl) (by kernel_rfl)
      refine .inl ⟨wanted_free rfl, fun K hK => ?_⟩
      clear hs hb hx
      go_simp
      exact hK _ _ rfl (Ext.refl _)
    · intro fa fw hx hs hb
      obtain ⟨_, s78, rfl⟩ := hs 11 78 (by kernel_rfl) (by kernel_rfl)
      have s15 : fa.tmps[(15 : Nat)]? = some (S (120 :: r)) := (hb 15 (by kernel_rfl)).trans (by rfl)
      refine .inl ⟨wanted_yes 11 false 78 rfl (by kernel_rfl) s78, fun K hK => ?_⟩
      clear hs hb hx
      go_simp
      exact hK _ _ rfl (Ext.refl _)
    · intro fa fw hx hs hb
      obtain ⟨_, s78, rfl⟩ := hs 11 78 (by kernel_rfl) (by kernel_rfl)
      obtain ⟨_, s79, rfl⟩ := hs 12 79 (by kernel_rfl) (by kernel_rfl)
      refine .inl ⟨wanted_yes 11 false 78 rfl (by kernel_rfl) s78, fun K hK => ?_⟩
      clear hs hb
      go_simp
      exact hK _ _ rfl (Ext.refl _)
    · intro fa fw hx hs hb
      obtain ⟨_, s78, rfl⟩ := hs 11 78 (by kernel_rfl) (by kernel_rfl)
      have s13 : fa.tmps[(13 : Nat)]? = some (.slice (some ⟨w.heap.size + 1 + 1 + 1, 0, none⟩) 4 4) := (hb 13 (by kernel_rfl)).trans (by rfl)
      refine .inl ⟨wanted_yes 11 false 78 rfl (by kernel_rfl) s78, fun K hK => ?_⟩
      clear hs hb hx
      go_simp
      exact hK _ _ rfl (Ext.refl _)
    · intro fa fw hx hs hb
      obtain ⟨_, s78, rfl⟩ := hs 11 78 (by kernel_rfl) (by kernel_rfl)
      have s14 : fa.tmps[(14 : Nat)]? = some (.int .i64 1) := (hb 14 (by kernel_rfl)).trans (by rfl)
      refine .inl ⟨wanted_yes 11 false 78 rfl (by kernel_rfl) s78, fun K hK => ?_⟩
      clear hs hb hx
      go_simp
      exact hK _ _ rfl (Ext.refl _)
    · intro fa fw hx hs hb
      obtain ⟨_, s78, rfl⟩ := hs 11 78 (by kernel_rfl) (by kernel_rfl)
      obtain ⟨_, s81, rfl⟩ := hs 14 81 (by kernel_rfl) (by kernel_rfl)
      obtain ⟨_, s82, rfl⟩ := hs 15 82 (by kernel_rfl) (by kernel_rfl)
      refine .inl ⟨wanted_yes 11 false 78 rfl (by kernel_rfl) s78, fun K hK => ?_⟩
      clear hs hb hx
      go_simp
      exact hK _ _ rfl (Ext.refl _)
    · intro fa fw hx hs hb
      obtain ⟨_, s78, rfl⟩ := hs 11 78 (by kernel_rfl) (by kernel_rfl)
      obtain ⟨_, s83, rfl⟩ := hs 16 83 (by kernel_rfl) (by kernel_rfl)
      have c0 := hx.keeps _ _ F0.out
      refine .inl ⟨wanted_yes 11 false 78 rfl (by kernel_rfl) s78, fun K hK => ?_⟩
      clear hs hb hx
      go_simp
      exact hK _ _ rfl (Ext.refl _)
    · intro fa fw hx hs hb
      obtain ⟨_, s78, rfl⟩ := hs 11 78 (by kernel_rfl) (by kernel_rfl)
      obtain ⟨_, s84, rfl⟩ := hs 17 84 (by kernel_rfl) (by kernel_rfl)
      refine .inl ⟨wanted_yes 11 false 78 rfl (by kernel_rfl) s78, fun K hK => ?_⟩
      clear hs hb
      go_simp
      exact hK _ _ rfl (Ext.refl _)
    · intro fa fw hx hs hb
      obtain ⟨_, s78, rfl⟩ := hs 11 78 (by kernel_rfl) (by kernel_rfl)
      obtain ⟨_, s80, rfl⟩ := hs 13 80 (by kernel_rfl) (by kernel_rfl)
      obtain ⟨_, s85, rfl⟩ := hs 18 85 (by kernel_rfl) (by kernel_rfl)
      refine .inl ⟨wanted_yes 11 false 78 rfl (by kernel_rfl) s78, fun K hK => ?_⟩
      clear hs hb
      go_simp
      exact hK _ _ rfl (Ext.refl _)
    · intro fa fw hx hs hb
      obtain ⟨_, s78, rfl⟩ := hs 11 78 (by kernel_rfl) (by kernel_rfl)
      obtain ⟨_, s86, rfl⟩ := hs 19 86 (by kernel_rfl) (by kernel_rfl)
      refine .inl ⟨wanted_free rfl, fun K hK => ?_⟩
      clear hs hb hx
      go_simp
      exact hK _ _ rfl (Ext.refl _)
  case rest =>
    intro w2 hxw2
    rintro _ rfl
    rintro _ rfl
    rintro _ rfl
    rintro _ rfl
    rintro _ rfl
    rintro _ rfl
    rintro _ rfl
    rintro _ rfl
    rintro _ rfl
    rintro _ rfl
    rintro _ rfl
    rintro _ rfl
    rintro _ rfl
    rintro _ rfl
    rintro _ rfl
    rintro _ rfl
    rintro _ rfl
    rintro _ rfl
    rintro _ rfl
    rintro _ rfl
    rintro _ rfl
    simp only [putAll, List.take, Act.put, List.setIfInBounds_toArray, List.set_cons_zero, List.set_cons_succ]
    refine wpAny_done (by kernel_rfl) ?_ _
    go_wp2_with fail
    have F1 := Lib.hid (hxw2.keeps _ _ F0.out); have E1 := Lib.hid (hxw2.keeps _ _ e0)
    refine wp_flow3 14 1 [isV (.slice (some ⟨w.heap.size + 1 + 1, 0, none⟩) 4 4), isV (.int .i64 1), isV (.pointer (some ⟨w.heap.size + 1 + 1, 1, none⟩)), isV (.int .i64 4), isV (S (120 :: r)), isV (.int .u8 120), isV (.slice (some ⟨w.heap.size + 1 + 1 + 1, 0, none⟩) 4 4), isV (.int .i64 1), isV (.pointer (some ⟨w.heap.size + 1 + 1 + 1, 1, none⟩)), isV (.int .u8 120), isV (.int .u8 0), isV (.int .i64 0), isV (.agg #[.int .i64 4, .int .i64 0]), fun v w => ∃ b, v = .pointer (some ⟨b, 0, none⟩) ∧ w2.heap.size ≤ b ∧ w.cell? ⟨b, 0, none⟩ = some (I 0) ∧ w.cell? ⟨b, 1, none⟩ = some (I 0) ∧ w.frozen? ⟨b, 0, none⟩ = false ∧ w.frozen? ⟨b, 1, none⟩ = false] (by kernel_rfl) rfl rfl (by kernel_rfl) (by kernel_rfl) ⟨isV_mono, isV_mono, isV_mono, isV_mono, isV_mono, isV_mono, isV_mono, isV_mono, isV_mono, isV_mono, isV_mono, isV_mono, isV_mono, fun v w w' ⟨b, e, h0, h1, h2, h3, h4⟩ hx => ⟨b, e, h0, hx.keeps _ _ h1, hx.keeps _ _ h2, (Below.frozen (p := ⟨b, 0, none⟩) hx (lt_of_cell h1)).trans h3, (Below.frozen (p := ⟨b, 1, none⟩) hx (lt_of_cell h2)).trans h4⟩, trivial⟩ ?each ?rest
    case each =>
      refine .cons ?_ (.cons ?_ (.cons ?_ (.cons ?_ (.cons ?_ (.cons ?_ (.cons ?_ (.cons ?_ (.cons ?_ (.cons ?_ (.cons ?_ (.cons ?_ (.cons ?_ (.cons ?_ (.nil))))))))))))))
      · intro fa fw hx hs hb
        have s12 : fa.tmps[(12 : Nat)]? = some (.slice (some ⟨w.heap.size + 1 + 1, 0, none⟩) 4 4) := (hb 12 (by kernel_rfl)).trans (by rfl)
        refine .inl ⟨wanted_free rfl, fun K hK => ?_⟩
        clear hs hb hx
        go_simp
        exact hK _ _ rfl (Ext.refl _)
      · intro fa fw hx hs hb
        have s14 : fa.tmps[(14 : Nat)]? = some (.int .i64 1) := (hb 14 (by kernel_rfl)).trans (by rfl)
        refine .inl ⟨wanted_free rfl, fun K hK => ?_⟩
        clear hs hb hx
        go_simp
        exact hK _ _ rfl (Ext.refl _)
      · intro fa fw hx hs hb
        obtain ⟨_, s89, rfl⟩ := hs 0 89 (by kernel_rfl) (by kernel_rfl)
        obtain ⟨_, s90, rfl⟩ := hs 1 90 (by kernel_rfl) (by kernel_rfl)
        refine .inl ⟨wanted_free rfl, fun K hK => ?_⟩
        clear hs hb hx
        go_simp
        exact hK _ _ rfl (Ext.refl _)
      · intro fa fw hx hs hb
        obtain ⟨_, s91, rfl⟩ := hs 2 91 (by kernel_rfl) (by kernel_rfl)
        have c0 := hx.keeps _ _ E1.out
        refine .inl ⟨wanted_free rfl, fun K hK => ?_⟩
        clear hs hb hx
        go_simp
        exact hK _ _ rfl (Ext.refl _)
      · intro fa fw hx hs hb
        have s15 : fa.tmps[(15 : Nat)]? = some (S (120 :: r)) := (hb 15 (by kernel_rfl)).trans (by rfl)
        refine .inl ⟨wanted_free rfl, fun K hK => ?_⟩
        clear hs hb hx
        go_simp
        exact hK _ _ rfl (Ext.refl _)
      · intro fa fw hx hs hb
        obtain ⟨_, s93, rfl⟩ := hs 4 93 (by kernel_rfl) (by kernel_rfl)
        refine .inl ⟨wanted_free rfl, fun K hK => ?_⟩
        clear hs hb
        go_simp
        exact hK _ _ rfl (Ext.refl _)
      · intro fa fw hx hs hb
        have s13 : fa.tmps[(13 : Nat)]? = some (.slice (some ⟨w.heap.size + 1 + 1 + 1, 0, none⟩) 4 4) := (hb 13 (by kernel_rfl)).trans (by rfl)
        refine .inl ⟨wanted_free rfl, fun K hK => ?_⟩
        clear hs hb hx
        go_simp
        exact hK _ _ rfl (Ext.refl _)
      · intro fa fw hx hs hb
        have s14 : fa.tmps[(14 : Nat)]? = some (.int .i64 1) := (hb 14 (by kernel_rfl)).trans (by rfl)
        refine .inl ⟨wanted_free rfl, fun K hK => ?_⟩
        clear hs hb hx
        go_simp
        exact hK _ _ rfl (Ext.refl _)
      · intro fa fw hx hs hb
        obtain ⟨_, s95, rfl⟩ := hs 6 95 (by kernel_rfl) (by kernel_rfl)
        obtain ⟨_, s96, rfl⟩ := hs 7 96 (by kernel_rfl) (by kernel_rfl)
        refine .inl ⟨wanted_free rfl, fun K hK => ?_⟩
        clear hs hb hx
        go_simp
        exact hK _ _ rfl (Ext.refl _)
      · intro fa fw hx hs hb
        obtain ⟨_, s97, rfl⟩ := hs 8 97 (by kernel_rfl) (by kernel_rfl)
        have c0 := hx.keeps _ _ F1.out
        refine .inl ⟨wanted_free rfl, fun K hK => ?_⟩
        clear hs hb hx
        go_simp
        exact hK _ _ rfl (Ext.refl _)
      · intro fa fw hx hs hb
        obtain ⟨_, s94, rfl⟩ := hs 5 94 (by kernel_rfl) (by kernel_rfl)
        obtain ⟨_, s98, rfl⟩ := hs 9 98 (by kernel_rfl) (by kernel_rfl)
        refine .inl ⟨wanted_free rfl, fun K hK => ?_⟩
        clear hs hb
        go_simp
        exact hK _ _ rfl (Ext.refl _)
      · intro fa fw hx hs hb
        obtain ⟨_, s99, rfl⟩ := hs 10 99 (by kernel_rfl) (by kernel_rfl)
        refine .inl ⟨wanted_free rfl, fun K hK => ?_⟩
        clear hs hb
        go_simp
        exact hK _ _ rfl (Ext.refl _)
      · intro fa fw hx hs hb
        obtain ⟨_, s92, rfl⟩ := hs 3 92 (by kernel_rfl) (by kernel_rfl)
        obtain ⟨_, s100, rfl⟩ := hs 11 100 (by kernel_rfl) (by kernel_rfl)
        refine .inl ⟨wanted_free rfl, fun K hK => ?_⟩
        clear hs hb
        go_simp
        exact hK _ _ rfl (Ext.refl _)
      · intro fa fw hx hs hb
        refine .inl ⟨wanted_free rfl, fun K hK => ?_⟩
        clear hs hb
        go_simp
        exact hK _ _ ⟨_, rfl, hx.size, by rw [World.cell?_alloc_new]; rfl, by rw [World.cell?_alloc_new]; rfl, World.frozen?_alloc_at _ _ _ _ rfl, World.frozen?_alloc_at _ _ _ _ rfl⟩ ((Ext.refl _).alloc _)
    case rest =>
      intro w3 hxw3
      rintro _ rfl
      rintro _ rfl
      rintro _ rfl
      rintro _ rfl
      rintro _ rfl
      rintro _ rfl
      rintro _ rfl
      rintro _ rfl
      rintro _ rfl
      rintro _ rfl
      rintro _ rfl
      rintro _ rfl
      rintro _ rfl
      rintro _ ⟨b17, rfl, q17⟩
      simp only [putAll, List.take, Act.put, List.setIfInBounds_toArray, List.set_cons_zero, List.set_cons_succ]
      obtain ⟨qb0, qb1, qb2, qb3, qb4⟩ := q17
      refine wpAny_ready (rs := [14]) (by kernel_rfl) (by simp) (AllReady.cons rfl (fun KK hKK => ?_) AllReady.nil)
      go_simp
      refine hKK _ _ ?_
      clear hKK KK
      refine wpAny_done (by kernel_rfl) ?_ _
      have k0 : ((w3.setCell ⟨b17, 0, none⟩ (.int .i64 4)).setCell ⟨b17, 1, none⟩ (.int .i64 0)).cell? ⟨b17, 0, none⟩ = some (.int .i64 4) := (World.cell?_setCell_other _ _ _ _ (by simp)).trans (World.cell?_setCell_same _ _ _ qb1)
      have k1 : ((w3.setCell ⟨b17, 0, none⟩ (.int .i64 4)).setCell ⟨b17, 1, none⟩ (.int .i64 0)).cell? ⟨b17, 1, none⟩ = some (.int .i64 0) := World.cell?_setCell_same _ _ _ ((World.cell?_setCell_other _ _ _ _ (by simp)).trans qb2)
      have x4 : Ext w ((w3.setCell ⟨b17, 0, none⟩ (.int .i64 4)).setCell ⟨b17, 1, none⟩ (.int .i64 0)) := (((xf.trans hxw2).trans hxw3).setCell (by show w.heap.size ≤ b17; have := (xf.trans hxw2).size; omega) _).setCell (by show w.heap.size ≤ b17; have := (xf.trans hxw2).size; omega) _
      generalize (w3.setCell ⟨b17, 0, none⟩ (.int .i64 4)).setCell ⟨b17, 1, none⟩ (.int .i64 0) = w4 at *
      clear qb1 qb2 qb3 qb4
      have hrl : r.length ≤ 5000 := by have := rest_len wAwait s; rw [HQ'.out] at this; simp at this; omega
      go_wp2
      rw [ba_tail1]
      refine bodyPost_ret (v := Pr3 (.slice (some ⟨w4.heap.size, 0, none⟩) 1 1) (S r) (.bool true)) (by simp [results, Tryz.results42, go_sem]) rfl ⟨_, 1, rfl, ?_, by simp [Tr.size], by unfold maxLen; omega, by simp [Tr.size], hrl, x4.alloc _⟩
      exact Sl2.newAt PK PS _ _ [⟨4, 0⟩] _ _ rfl rfl
set_option maxHeartbeats 400000 in
theorem from_w4_1 (w : World) (s : List UInt8) (l : Nat) (hs : s.length ≤ 5000) (hl : l ≤ 13) (hi0 : isP wNothing s = false) (hi1 : isP wPause s = false) (hi2 : isP wHalt s = false) (hi3 : isP wEmit s = false) (hi4 : isP wAwait s = true) {r : List UInt8} (hq : restP wAwait s = 121 :: r) :
    Calls Tryz.prog 42 #[S s, I ((l : Int) + 1)] w (FromPost w (l + 1) (some (.leaf ⟨4, 1⟩, r))) := by
  have HI0 := Lib.hid hi0; clear hi0
  have HI1 := Lib.hid hi1; clear hi1
  have HI2 := Lib.hid hi2; clear hi2
  have HI3 := Lib.hid hi3; clear hi3
  have HI4 := Lib.hid hi4; clear hi4
  have HQ' := Lib.hid hq; clear hq
  go_enter Tryz.func42, Tryz.ntmps42
  go_wp2_with fail
  refine wp_loop_rounds 4 ?_
  rw [rounds_succ]
  go_wp2_with fail
  refine (after_any s wNothing (by omega) (by decide) _).mono ?_; rintro e w' ⟨rfl, rfl⟩; rw [HI0.out]
  go_wp2_with fail
  rw [rounds_succ]
  go_wp2_with fail
  refine (after_any s wPause (by omega) (by decide) _).mono ?_; rintro e w' ⟨rfl, rfl⟩; rw [HI1.out]
  go_wp2_with fail
  rw [rounds_succ]
  go_wp2_with fail
  refine (after_any s wHalt (by omega) (by decide) _).mono ?_; rintro e w' ⟨rfl, rfl⟩; rw [HI2.out]
  go_wp2_with fail
  rw [rounds_succ]
  go_wp2_with fail
  rw [rfW_eq]
  have d0 := rfW_word w 0 _ rfl
  have d1 := rfW_word w 1 _ rfl
  have d2 := rfW_word w 2 _ rfl
  have d3 := rfW_word w 3 _ rfl
  have e0 := rfW_kind w 1 _ rfl
  have f0 := rfW_first w 1 _ rfl
  have xf := rfW_ext w
  have hsz := rfW_size w
  generalize rfW w = wf at *
  refine wp_loop_rounds 5 ?_
  rw [rounds_succ]
  go_wp2_with fail
  refine (after_any s wEmit (by omega) (by decide) _).mono ?_; rintro e w' ⟨rfl, rfl⟩; rw [HI3.out]
  go_wp2_with fail
  rw [rounds_succ]
  go_hideQ
  go_wp2_with fail
  refine (after_any s wAwait (by omega) (by decide) _).mono ?_; rintro e w' ⟨rfl, rfl⟩; rw [HI4.out]
  rw [HQ'.out]
  go_wp2_with fail
  have F0 := Lib.hid f0
  refine wp_flow3 21 0 [isV (S (121 :: r)), isV (.bool false), isV (.bool false), isV (S (121 :: r)), isV (.int .u8 121), isV (.slice (some ⟨w.heap.size + 1 + 1 + 1, 0, none⟩) 4 4), isV (.int .i64 1), isV (.pointer (some ⟨w.heap.size + 1 + 1 + 1, 1, none⟩)), isV (.int .u8 120), isV (.bool false), isV (.bool false), isV (.bool false), isV (S (121 :: r)), isV (.int .u8 121), isV (.slice (some ⟨w.heap.size + 1 + 1 + 1, 0, none⟩) 4 4), isV (.int .i64 1), isV (.pointer (some ⟨w.heap.size + 1 + 1 + 1, 1, none⟩)), isV (.int .u8 120), isV (.int .u8 122), isV (.bool false), isV (.bool false)] (by kernel_rfl) rfl rfl (by kernel_rfl) (by kernel_rfl) ⟨isV_mono, isV_mono, isV_mono, isV_mono, isV_mono, isV_mono, isV_mono, isV_mono, isV_mono, isV_mono, isV_mono, isV_mono, isV_mono, isV_mono, isV_mono, isV_mono, isV_mono, isV_mono, isV_mono, isV_mono, isV_mono, trivial⟩ ?each ?rest
  case each =>
    refine .cons ?_ (.cons ?_ (.cons ?_ (.cons ?_ (.cons ?_ (.cons ?_ (.cons ?_ (.cons ?_ (.cons ?_ (.cons ?_ (.cons ?_ (.cons ?_ (.cons ?_ (.cons ?_ (.cons ?_ (.cons ?_ (.cons ?_ (.cons ?_ (.cons ?_ (.cons ?_ (.cons ?_ (.nil)))))))))))))))))))))
    · intro fa fw hx hs hb
      have s15 : fa.tmps[(15 : Nat)]? = some (S (121 :: r)) := (hb 15 (by kernel_rfl)).trans (by rfl)
      refine .inl ⟨wanted_free rfl, fun K hK => ?_⟩
      clear hs hb hx
      go_simp
      exact hK _ _ rfl (Ext.refl _)
    · intro fa fw hx hs hb
      obtain ⟨_, s67, rfl⟩ := hs 0 67 (by kernel_rfl) (by kernel_rfl)
      refine .inl ⟨wanted_free rfl, fun K hK => ?_⟩
      clear hs hb
      go_simp
      exact hK _ _ rfl (Ext.refl _)
    · intro fa fw hx hs hb
      obtain ⟨_, s68, rfl⟩ := hs 1 68 (by kernel_rfl) (by kernel_rfl)
      refine .inl ⟨wanted_free rfl, fun K hK => ?_⟩
      clear hs hb hx
      go_simp
      exact hK _ _ rfl (Ext.refl _)
    · intro fa fw hx hs hb
      obtain ⟨_, s69, rfl⟩ := hs 2 69 (by kernel_rfl) (by kernel_rfl)
      have s15 : fa.tmps[(15 : Nat)]? = some (S (121 :: r)) := (hb 15 (by kernel_rfl)).trans (by rfl)
      refine .inl ⟨wanted_yes 2 false 69 rfl (by kernel_rfl) s69, fun K hK => ?_⟩
      clear hs hb hx
      go_simp
      exact hK _ _ rfl (Ext.refl _)
    · intro fa fw hx hs hb
      obtain ⟨_, s69, rfl⟩ := hs 2 69 (by kernel_rfl) (by kernel_rfl)
      obtain ⟨_, s70, rfl⟩ := hs 3 70 (by kernel_rfl) (by kernel_rfl)
      refine .inl ⟨wanted_yes 2 false 69 rfl (by kernel_rfl) s69, fun K hK => ?_⟩
      clear hs hb
      go_simp
      exact hK _ _ rfl (Ext.refl _)
    · intro fa fw hx hs hb
      obtain ⟨_, s69, rfl⟩ := hs 2 69 (by kernel_rfl) (by kernel_rfl)
      have s13 : fa.tmps[(13 : Nat)]? = some (.slice (some ⟨w.heap.size + 1 + 1 + 1, 0, none⟩) 4 4) := (hb 13 (by kernel_rfl)).trans (by rfl)
      refine .inl ⟨wanted_yes 2 false 69 rfl (by kernel_rfl) s69, fun K hK => ?_⟩
      clear hs hb hx
      go_simp
      exact hK _ _ rfl (Ext.refl _)
    · intro fa fw hx hs hb
      obtain ⟨_, s69, rfl⟩ := hs 2 69 (by kernel_rfl) (by kernel_rfl)
      have s14 : fa.tmps[(14 : Nat)]? = some (.int .i64 1) := (hb 14 (by kernel_rfl)).trans (by rfl)
      refine .inl ⟨wanted_yes 2 false 69 rfl (by kernel_rfl) s69, fun K hK => ?_⟩
      clear hs hb hx
      go_simp
      exact hK _ _ rfl (Ext.refl _)
    · intro fa fw hx hs hb
      obtain ⟨_, s69, rfl⟩ := hs 2 69 (by kernel_rfl) (by kernel_rfl)
      obtain ⟨_, s72, rfl⟩ := hs 5 72 (by kernel_rfl) (by kernel_rfl)
      obtain ⟨_, s73, rfl⟩ := hs 6 73 (by kernel_rfl) (by kernel_rfl)
      refine .inl ⟨wanted_yes 2 false 69 rfl (by kernel_rfl) s69, fun K hK => ?_⟩
      clear hs hb hx
      go_simp
      exact hK _ _ rfl (Ext.refl _)
    · intro fa fw hx hs hb
      obtain ⟨_, s69, rfl⟩ := hs 2 69 (by kernel_rfl) (by kernel_rfl)
      obtain ⟨_, s74, rfl⟩ := hs 7 74 (by kernel_rfl) (by kernel_rfl)
      have c0 := hx.keeps _ _ F0.out
      refine .inl ⟨wanted_yes 2 false 69 rfl (by kernel_rfl) s69, fun K hK => ?_⟩
      clear hs hb hx
      go_simp
      exact hK _ _ rfl (Ext.refl _)
    · intro fa fw hx hs hb
      obtain ⟨_, s69, rfl⟩ := hs 2 69 (by kernel_rfl) (by kernel_rfl)
      obtain ⟨_, s71, rfl⟩ := hs 4 71 (by kernel_rfl) (by kernel_rfl)
      obtain ⟨_, s75, rfl⟩ := hs 8 75 (by kernel_rfl) (by kernel_rfl)
      refine .inl ⟨wanted_yes 2 false 69 rfl (by kernel_rfl) s69, fun K hK => ?_⟩
      clear hs hb
      go_simp
      exact hK _ _ rfl (Ext.refl _)
    · intro fa fw hx hs hb
      obtain ⟨_, s69, rfl⟩ := hs 2 69 (by kernel_rfl) (by kernel_rfl)
      obtain ⟨_, s76, rfl⟩ := hs 9 76 (by kernel_rfl) (by kernel_rfl)
      refine .inl ⟨wanted_free rfl, fun K hK => ?_⟩
      clear hs hb hx
      go_simp
      exact hK _ _ rfl (Ext.refl _)
    · intro fa fw hx hs hb
      obtain ⟨_, s77, rfl⟩ := hs 10 77 (by kernel_rfl) (by kernel_rfl)
      refine .inl ⟨wanted_free rfl, fun K hK => ?_⟩
      clear hs hb hx
      go_simp
      exact hK _ _ rfl (Ext.refl _)
    · intro fa fw hx hs hb
      obtain ⟨_, s78, rfl⟩ := hs 11 78 (by kernel_rfl) (by kernel_rfl)
      have s15 : fa.tmps[(15 : Nat)]? = some (S (121 :: r)) := (hb 15 (by kernel_rfl)).trans (by rfl)
      refine .inl ⟨wanted_yes 11 false 78 rfl (by kernel_rfl) s78, fun K hK => ?_⟩
      clear hs hb hx
      go_simp
      exact hK _ _ rfl (Ext.refl _)
    · intro fa fw hx hs hb
      obtain ⟨_, s78, rfl⟩ := hs 11 78 (by kernel_rfl) (by kernel_rfl)
      obtain ⟨_, s79, rfl⟩ := hs 12 79 (by kernel_rfl) (by kernel_rfl)
      refine .inl ⟨wanted_yes 11 false 78 rfl (by kernel_rfl) s78, fun K hK => ?_⟩
      clear hs hb
      go_simp
      exact hK _ _ rfl (Ext.refl _)
    · intro fa fw hx hs hb
      obtain ⟨_, s78, rfl⟩ := hs 11 78 (by kernel_rfl) (by kernel_rfl)
      have s13 : fa.tmps[(13 : Nat)]? = some (.slice (some ⟨w.heap.size + 1 + 1 + 1, 0, none⟩) 4 4) := (hb 13 (by kernel_rfl)).trans (by rfl)
      refine .inl ⟨wanted_yes 11 false 78 rfl (by kernel_rfl) s78, fun K hK => ?_⟩
      clear hs hb hx
      go_simp
      exact hK _ _ rfl (Ext.refl _)
    · intro fa fw hx hs hb
      obtain ⟨_, s78, rfl⟩ := hs 11 78 (by kernel_rfl) (by kernel_rfl)
      have s14 : fa.tmps[(14 : Nat)]? = some (.int .i64 1) := (hb 14 (by kernel_rfl)).trans (by rfl)
      refine .inl ⟨wanted_yes 11 false 78 rfl (by kernel_rfl) s78, fun K hK => ?_⟩
      clear hs hb hx
      go_simp
      exact hK _ _ rfl (Ext.refl _)
    · intro fa fw hx hs hb
      obtain ⟨_, s78, rfl⟩ := hs 11 78 (by kernel_rfl) (by kernel_rfl)
      obtain ⟨_, s81, rfl⟩ := hs 14 81 (by kernel_rfl) (by kernel_rfl)
      obtain ⟨_, s82, rfl⟩ := hs 15 82 (by kernel_rfl) (by kernel_rfl)
      refine .inl ⟨wanted_yes 11 false 78 rfl (by kernel_rfl) s78, fun K hK => ?_⟩
      clear hs hb hx
      go_simp
      exact hK _ _ rfl (Ext.refl _)
    · intro fa fw hx hs hb
      obtain ⟨_, s78, rfl⟩ := hs 11 78 (by kernel_rfl) (by kernel_rfl)
      obtain ⟨_, s83, rfl⟩ := hs 16 83 (by kernel_rfl) (by kernel_rfl)
      have c0 := hx.keeps _ _ F0.out
      refine .inl ⟨wanted_yes 11 false 78 rfl (by kernel_rfl) s78, fun K hK => ?_⟩
      clear hs hb hx
      go_simp
      exact hK _ _ rfl (Ext.refl _)
    · intro fa fw hx hs hb
      obtain ⟨_, s78, rfl⟩ := hs 11 78 (by kernel_rfl) (by kernel_rfl)
      obtain ⟨_, s84, rfl⟩ := hs 17 84 (by kernel_rfl) (by kernel_rfl)
      refine .inl ⟨wanted_yes 11 false 78 rfl (by kernel_rfl) s78, fun K hK => ?_⟩
      clear hs hb
      go_simp
      exact hK _ _ rfl (Ext.refl _)
    · intro fa fw hx hs hb
      obtain ⟨_, s78, rfl⟩ := hs 11 78 (by kernel_rfl) (by kernel_rfl)
      obtain ⟨_, s80, rfl⟩ := hs 13 80 (by kernel_rfl) (by kernel_rfl)
      obtain ⟨_, s85, rfl⟩ := hs 18 85 (by kernel_rfl) (by kernel_rfl)
      refine .inl ⟨wanted_yes 11 false 78 rfl (by kernel_rfl) s78, fun K hK => ?_⟩
      clear hs hb
      go_simp
      exact hK _ _ rfl (Ext.refl _)
    · intro fa fw hx hs hb
      obtain ⟨_, s78, rfl⟩ := hs 11 78 (by kernel_rfl) (by kernel_rfl)
      obtain ⟨_, s86, rfl⟩ := hs 19 86 (by kernel_rfl) (by kernel_rfl)
      refine .inl ⟨wanted_free rfl, fun K hK => ?_⟩
      clear hs hb hx
      go_simp
      exact hK _ _ rfl (Ext.refl _)
  case rest =>
    intro w2 hxw2
    rintro _ rfl
    rintro _ rfl
    rintro _ rfl
    rintro _ rfl
    rintro _ rfl
    rintro _ rfl
    rintro _ rfl
    rintro _ rfl
    rintro _ rfl
    rintro _ rfl
    rintro _ rfl
    rintro _ rfl
    rintro _ rfl
    rintro _ rfl
    rintro _ rfl
    rintro _ rfl
    rintro _ rfl
    rintro _ rfl
    rintro _ rfl
    rintro _ rfl
    rintro _ rfl
    simp only [putAll, List.take, Act.put, List.setIfInBounds_toArray, List.set_cons_zero, List.set_cons_succ]
    refine wpAny_done (by kernel_rfl) ?_ _
    go_wp2_with fail
    have F1 := Lib.hid (hxw2.keeps _ _ F0.out); have E1 := Lib.hid (hxw2.keeps _ _ e0)
    refine wp_flow3 14 1 [isV (.slice (some ⟨w.heap.size + 1 + 1, 0, none⟩) 4 4), isV (.int .i64 1), isV (.pointer (some ⟨w.heap.size + 1 + 1, 1, none⟩)), isV (.int .i64 4), isV (S (121 :: r)), isV (.int .u8 121), isV (.slice (some ⟨w.heap.size + 1 + 1 + 1, 0, none⟩) 4 4), isV (.int .i64 1), isV (.pointer (some ⟨w.heap.size + 1 + 1 + 1, 1, none⟩)), isV (.int .u8 120), isV (.int .u8 1), isV (.int .i64 1), isV (.agg #[.int .i64 4, .int .i64 1]), fun v w => ∃ b, v = .pointer (some ⟨b, 0, none⟩) ∧ w2.heap.size ≤ b ∧ w.cell? ⟨b, 0, none⟩ = some (I 0) ∧ w.cell? ⟨b, 1, none⟩ = some (I 0) ∧ w.frozen? ⟨b, 0, none⟩ = false ∧ w.frozen? ⟨b, 1, none⟩ = false] (by kernel_rfl) rfl rfl (by kernel_rfl) (by kernel_rfl) ⟨isV_mono, isV_mono, isV_mono, isV_mono, isV_mono, isV_mono, isV_mono, isV_mono, isV_mono, isV_mono, isV_mono, isV_mono, isV_mono, fun v w w' ⟨b, e, h0, h1, h2, h3, h4⟩ hx => ⟨b, e, h0, hx.keeps _ _ h1, hx.keeps _ _ h2, (Below.frozen (p := ⟨b, 0, none⟩) hx (lt_of_cell h1)).trans h3, (Below.frozen (p := ⟨b, 1, none⟩) hx (lt_of_cell h2)).trans h4⟩, trivial⟩ ?each ?rest
    case each =>
      refine .cons ?_ (.cons ?_ (.cons ?_ (.cons ?_ (.cons ?_ (.cons ?_ (.cons ?_ (.cons ?_ (.cons ?_ (.cons ?_ (.cons ?_ (.cons ?_ (.cons ?_ (.cons ?_ (.nil))))))))))))))
      · intro fa fw hx hs hb
        have s12 : fa.tmps[(12 : Nat)]? = some (.slice (some ⟨w.heap.size + 1 + 1, 0, none⟩) 4 4) := (hb 12 (by kernel_rfl)).trans (by rfl)
        refine .inl ⟨wanted_free rfl, fun K hK => ?_⟩
        clear hs hb hx
        go_simp
        exact hK _ _ rfl (Ext.refl _)
      · intro fa fw hx hs hb
        have s14 : fa.tmps[(14 : Nat)]? = some (.int .i64 1) := (hb 14 (by kernel_rfl)).trans (by rfl)
        refine .inl ⟨wanted_free rfl, fun K hK => ?_⟩
        clear hs hb hx
        go_simp
        exact hK _ _ rfl (Ext.refl _)
      · intro fa fw hx hs hb
        obtain ⟨_, s89, rfl⟩ := hs 0 89 (by kernel_rfl) (by kernel_rfl)
        obtain ⟨_, s90, rfl⟩ := hs 1 90 (by kernel_rfl) (by kernel_rfl)
        refine .inl ⟨wanted_free rfl, fun K hK => ?_⟩
        clear hs hb hx
        go_simp
        exact hK _ _ rfl (Ext.refl _)
      · intro fa fw hx hs hb
        obtain ⟨_, s91, rfl⟩ := hs 2 91 (by kernel_rfl) (by kernel_rfl)
        have c0 := hx.keeps _ _ E1.out
        refine .inl ⟨wanted_free rfl, fun K hK => ?_⟩
        clear hs hb hx
        go_simp
        exact hK _ _ rfl (Ext.refl _)
      · intro fa fw hx hs hb
        have s15 : fa.tmps[(15 : Nat)]? = some (S (121 :: r)) := (hb 15 (by kernel_rfl)).trans (by rfl)
        refine .inl ⟨wanted_free rfl, fun K hK => ?_⟩
        clear hs hb hx
        go_simp
        exact hK _ _ rfl (Ext.refl _)
      · intro fa fw hx hs hb
        obtain ⟨_, s93, rfl⟩ := hs 4 93 (by kernel_rfl) (by kernel_rfl)
        refine .inl ⟨wanted_free rfl, fun K hK => ?_⟩
        clear hs hb
        go_simp
        exact hK _ _ rfl (Ext.refl _)
      · intro fa fw hx hs hb
        have s13 : fa.tmps[(13 : Nat)]? = some (.slice (some ⟨w.heap.size + 1 + 1 + 1, 0, none⟩) 4 4) := (hb 13 (by kernel_rfl)).trans (by rfl)
        refine .inl ⟨wanted_free rfl, fun K hK => ?_⟩
        clear hs hb hx
        go_simp
        exact hK _ _ rfl (Ext.refl _)
      · intro fa fw hx hs hb
        have s14 : fa.tmps[(14 : Nat)]? = some (.int .i64 1) := (hb 14 (by kernel_rfl)).trans (by rfl)
        refine .inl ⟨wanted_free rfl, fun K hK => ?_⟩
        clear hs hb hx
        go_simp
        exact hK _ _ rfl (Ext.refl _)
      · intro fa fw hx hs hb
        obtain ⟨_, s95, rfl⟩ := hs 6 95 (by kernel_rfl) (by kernel_rfl)
        obtain ⟨_, s96, rfl⟩ := hs 7 96 (by kernel_rfl) (by kernel_rfl)
        refine .inl ⟨wanted_free rfl, fun K hK => ?_⟩
        clear hs hb hx
        go_simp
        exact hK _ _ rfl (Ext.refl _)
      · intro fa fw hx hs hb
        obtain ⟨_, s97, rfl⟩ := hs 8 97 (by kernel_rfl) (by kernel_rfl)
        have c0 := hx.keeps _ _ F1.out
        refine .inl ⟨wanted_free rfl, fun K hK => ?_⟩
        clear hs hb hx
        go_simp
        exact hK _ _ rfl (Ext.refl _)
      · intro fa fw hx hs hb
        obtain ⟨_, s94, rfl⟩ := hs 5 94 (by kernel_rfl) (by kernel_rfl)
        obtain ⟨_, s98, rfl⟩ := hs 9 98 (by kernel_rfl) (by kernel_rfl)
        refine .inl ⟨wanted_free rfl, fun K hK => ?_⟩
        clear hs hb
        go_simp
        exact hK _ _ rfl (Ext.refl _)
      · intro fa fw hx hs hb
        obtain ⟨_, s99, rfl⟩ := hs 10 99 (by kernel_rfl) (by kernel_rfl)
        refine .inl ⟨wanted_free rfl, fun K hK => ?_⟩
        clear hs hb
        go_simp
        exact hK _ _ rfl (Ext.refl _)
      · intro fa fw hx hs hb
        obtain ⟨_, s92, rfl⟩ := hs 3 92 (by kernel_rfl) (by kernel_rfl)
        obtain ⟨_, s100, rfl⟩ := hs 11 100 (by kernel_rfl) (by kernel_rfl)
        refine .inl ⟨wanted_free rfl, fun K hK => ?_⟩
        clear hs hb
        go_simp
        exact hK _ _ rfl (Ext.refl _)
      · intro fa fw hx hs hb
        refine .inl ⟨wanted_free rfl, fun K hK => ?_⟩
        clear hs hb
        go_simp
        exact hK _ _ ⟨_, rfl, hx.size, by rw [World.cell?_alloc_new]; rfl, by rw [World.cell?_alloc_new]; rfl, World.frozen?_alloc_at _ _ _ _ rfl, World.frozen?_alloc_at _ _ _ _ rfl⟩ ((Ext.refl _).alloc _)
    case rest =>
      intro w3 hxw3
      rintro _ rfl
      rintro _ rfl
      rintro _ rfl
      rintro _ rfl
      rintro _ rfl
      rintro _ rfl
      rintro _ rfl
      rintro _ rfl
      rintro _ rfl
      rintro _ rfl
      rintro _ rfl
      rintro _ rfl
      rintro _ rfl
      rintro _ ⟨b17, rfl, q17⟩
      simp only [putAll, List.take, Act.put, List.setIfInBounds_toArray, List.set_cons_zero, List.set_cons_succ]
      obtain ⟨qb0, qb1, qb2, qb3, qb4⟩ := q17
      refine wpAny_ready (rs := [14]) (by kernel_rfl) (by simp) (AllReady.cons rfl (fun KK hKK => ?_) AllReady.nil)
      go_simp
      refine hKK _ _ ?_
      clear hKK KK
      refine wpAny_done (by kernel_rfl) ?_ _
      have k0 : ((w3.setCell ⟨b17, 0, none⟩ (.int .i64 4)).setCell ⟨b17, 1, none⟩ (.int .i64 1)).cell? ⟨b17, 0, none⟩ = some (.int .i64 4) := (World.cell?_setCell_other _ _ _ _ (by simp)).trans (World.cell?_setCell_same _ _ _ qb1)
      have k1 : ((w3.setCell ⟨b17, 0, none⟩ (.int .i64 4)).setCell ⟨b17, 1, none⟩ (.int .i64 1)).cell? ⟨b17, 1, none⟩ = some (.int .i64 1) := World.cell?_setCell_same _ _ _ ((World.cell?_setCell_other _ _ _ _ (by simp)).trans qb2)
      have x4 : Ext w ((w3.setCell ⟨b17, 0, none⟩ (.int .i64 4)).setCell ⟨b17, 1, none⟩ (.int .i64 1)) := (((xf.trans hxw2).trans hxw3).setCell (by show w.heap.size ≤ b17; have := (xf.trans hxw2).size; omega) _).setCell (by show w.heap.size ≤ b17; have := (xf.trans hxw2).size; omega) _
      generalize (w3.setCell ⟨b17, 0, none⟩ (.int .i64 4)).setCell ⟨b17, 1, none⟩ (.int .i64 1) = w4 at *
      clear qb1 qb2 qb3 qb4
      have hrl : r.length ≤ 5000 := by have := rest_len wAwait s; rw [HQ'.out] at this; simp at this; omega
      go_wp2
      rw [ba_tail1]
      refine bodyPost_ret (v := Pr3 (.slice (some ⟨w4.heap.size, 0, none⟩) 1 1) (S r) (.bool true)) (by simp [results, Tryz.results42, go_sem]) rfl ⟨_, 1, rfl, ?_, by simp [Tr.size], by unfold maxLen; omega, by simp [Tr.size], hrl, x4.alloc _⟩
      exact Sl2.newAt PK PS _ _ [⟨4, 1⟩] _ _ rfl rfl
set_option maxHeartbeats 400000 in
theorem from_w4_2 (w : World) (s : List UInt8) (l : Nat) (hs : s.length ≤ 5000) (hl : l ≤ 13) (hi0 : isP wNothing s = false) (hi1 : isP wPause s = false) (hi2 : isP wHalt s = false) (hi3 : isP wEmit s = false) (hi4 : isP wAwait s = true) {r : List UInt8} (hq : restP wAwait s = 122 :: r) :
    Calls Tryz.prog 42 #[S s, I ((l : Int) + 1)] w (FromPost w (l + 1) (some (.leaf ⟨4, 2⟩, r))) := by
  have HI0 := Lib.hid hi0; clear hi0
  have HI1 := Lib.hid hi1; clear hi1
  have HI2 := Lib.hid hi2; clear hi2
  have HI3 := Lib.hid hi3; clear hi3
  have HI4 := Lib.hid hi4; clear hi4
  have HQ' := Lib.hid hq; clear hq
  go_enter Tryz.func42, Tryz.ntmps42
  go_wp2_with fail
  refine wp_loop_rounds 4 ?_
  rw [rounds_succ]
  go_wp2_with fail
  refine (after_any s wNothing (by omega) (by decide) _).mono ?_; rintro e w' ⟨rfl, rfl⟩; rw [HI0.out]
  go_wp2_with fail
  rw [rounds_succ]
  go_wp2_with fail
  refine (after_any s wPause (by omega) (by decide) _).mono ?_; rintro e w' ⟨rfl, rfl⟩; rw [HI1.out]
  go_wp2_with fail
  rw [rounds_succ]
  go_wp2_with fail
  refine (after_any s wHalt (by omega) (by decide) _).mono ?_; rintro e w' ⟨rfl, rfl⟩; rw [HI2.out]
  go_wp2_with fail
  rw [rounds_succ]
  go_wp2_with fail
  rw [rfW_eq]
  have d0 := rfW_word w 0 _ rfl
  have d1 := rfW_word w 1 _ rfl
  have d2 := rfW_word w 2 _ rfl
  have d3 := rfW_word w 3 _ rfl
  have e0 := rfW_kind w 1 _ rfl
  have f0 := rfW_first w 1 _ rfl
  have xf := rfW_ext w
  have hsz := rfW_size w
  generalize rfW w = wf at *
  refine wp_loop_rounds 5 ?_
  rw [rounds_succ]
  go_wp2_with fail
  refine (after_any s wEmit (by omega) (by decide) _).mono ?_; rintro e w' ⟨rfl, rfl⟩; rw [HI3.out]
  go_wp2_with fail
  rw [rounds_succ]
  go_hideQ
  go_wp2_with fail
  refine (after_any s wAwait (by omega) (by decide) _).mono ?_; rintro e w' ⟨rfl, rfl⟩; rw [HI4.out]
  rw [HQ'.out]
  go_wp2_with fail
  have F0 := Lib.hid f0
  refine wp_flow3 21 0 [isV (S (122 :: r)), isV (.bool false), isV (.bool false), isV (S (122 :: r)), isV (.int .u8 122), isV (.slice (some ⟨w.heap.size + 1 + 1 + 1, 0, none⟩) 4 4), isV (.int .i64 1), isV (.pointer (some ⟨w.heap.size + 1 + 1 + 1, 1, none⟩)), isV (.int .u8 120), isV (.bool false), isV (.bool false), isV (.bool false), isV (S (122 :: r)), isV (.int .u8 122), isV (.slice (some ⟨w.heap.size + 1 + 1 + 1, 0, none⟩) 4 4), isV (.int .i64 1), isV (.pointer (some ⟨w.heap.size + 1 + 1 + 1, 1, none⟩)), isV (.int .u8 120), isV (.int .u8 122), isV (.bool false), isV (.bool false)] (by kernel_rfl) rfl rfl (by kernel_rfl) (by kernel_rfl) ⟨isV_mono, isV_mono, isV_mono, isV_mono, isV_mono, isV_mono, isV_mono, isV_mono, isV_mono, isV_mono, isV_mono, isV_mono, isV_mono, isV_mono, isV_mono, isV_mono, isV_mono, isV_mono, isV_mono, isV_mono, isV_mono, trivial⟩ ?each ?rest
  case each =>
    refine .cons ?_ (.cons ?_ (.cons ?_ (.cons ?_ (.cons ?_ (.cons ?_ (.cons ?_ (.cons ?_ (.cons ?_ (.cons ?_ (.cons ?_ (.cons ?_ (.cons ?_ (.cons ?_ (.cons ?_ (.cons ?_ (.cons ?_ (.cons ?_ (.cons ?_ (.cons ?_ (.cons ?_ (.nil)))))))))))))))))))))
    · intro fa fw hx hs hb
      have s15 : fa.tmps[(15 : Nat)]? = some (S (122 :: r)) := (hb 15 (by kernel_rfl)).trans (by rfl)
      refine .inl ⟨wanted_free rfl, fun K hK => ?_⟩
      clear hs hb hx
      go_simp
      exact hK _ _ rfl (Ext.refl _)
    · intro fa fw hx hs hb
      obtain ⟨_, s67, rfl⟩ := hs 0 67 (by kernel_rfl) (by kernel_rfl)
      refine .inl ⟨wanted_free rfl, fun K hK => ?_⟩
      clear hs hb
      go_simp
      exact hK _ _ rfl (Ext.refl _)
    · intro fa fw hx hs hb
      obtain ⟨_, s68, rfl⟩ := hs 1 68 (by kernel_rfl) (by kernel_rfl)
      refine .inl ⟨wanted_free rfl, fun K hK => ?_⟩
      clear hs hb hx
      go_simp
      exact hK _ _ rfl (Ext.refl _)
    · intro fa fw hx hs hb
      obtain ⟨_, s69, rfl⟩ := hs 2 69 (by kernel_rfl) (by kernel_rfl)
      have s15 : fa.tmps[(15 : Nat)]? = some (S (122 :: r)) := (hb 15 (by kernel_rfl)).trans (by rfl)
      refine .inl ⟨wanted_yes 2 false 69 rfl (by kernel_rfl) s69, fun K hK => ?_⟩
      clear hs hb hx
      go_simp
      exact hK _ _ rfl (Ext.refl _)
    · intro fa fw hx hs hb
      obtain ⟨_, s69, rfl⟩ := hs 2 69 (by kernel_rfl) (by kernel_rfl)
      obtain ⟨_, s70, rfl⟩ := hs 3 70 (by kernel_rfl) (by kernel_rfl)
      refine .inl ⟨wanted_yes 2 false 69 rfl (by kernel_rfl) s69, fun K hK => ?_⟩
      clear hs hb
      go_simp
      exact hK _ _ rfl (Ext.refl _)
    · intro fa fw hx hs hb
      obtain ⟨_, s69, rfl⟩ := hs 2 69 (by kernel_rfl) (by kernel_rfl)
      have s13 : fa.tmps[(13 : Nat)]? = some (.slice (some ⟨w.heap.size + 1 + 1 + 1, 0, none⟩) 4 4) := (hb 13 (by kernel_rfl)).trans (by rfl)
      refine .inl ⟨wanted_yes 2 false 69 rfl (by kernel_rfl) s69, fun K hK => ?_⟩
      clear hs hb hx
      go_simp
      exact hK _ _ rfl (Ext.refl _)
    · intro fa fw hx hs hb
      obtain ⟨_, s69, rfl⟩ := hs 2 69 (by kernel_rfl) (by kernel_rfl)
      have s14 : fa.tmps[(14 : Nat)]? = some (.int .i64 1) := (hb 14 (by kernel_rfl)).trans (by rfl)
      refine .inl ⟨wanted_yes 2 false 69 rfl (by kernel_rfl) s69, fun K hK => ?_⟩
      clear hs hb hx
      go_simp
      exact hK _ _ rfl (Ext.refl _)
    · intro fa fw hx hs hb
      obtain ⟨_, s69, rfl⟩ := hs 2 69 (by kernel_rfl) (by kernel_rfl)
      obtain ⟨_, s72, rfl⟩ := hs 5 72 (by kernel_rfl) (by kernel_rfl)
      obtain ⟨_, s73, rfl⟩ := hs 6 73 (by kernel_rfl) (by kernel_rfl)
      refine .inl ⟨wanted_yes 2 false 69 rfl (by kernel_rfl) s69, fun K hK => ?_⟩
      clear hs hb hx
      go_simp
      exact hK _ _ rfl (Ext.refl _)
    · intro fa fw hx hs hb
      obtain ⟨_, s69, rfl⟩ := hs 2 69 (by kernel_rfl) (by kernel_rfl)
      obtain ⟨_, s74, rfl⟩ := hs 7 74 (by kernel_rfl) (by kernel_rfl)
      have c0 := hx.keeps _ _ F0.out
      refine .inl ⟨wanted_yes 2 false 69 rfl (by kernel_rfl) s69, fun K hK => ?_⟩
      clear hs hb hx
      go_simp
      exact hK _ _ rfl (Ext.refl _)
    · intro fa fw hx hs hb
      obtain ⟨_, s69, rfl⟩ := hs 2 69 (by kernel_rfl) (by kernel_rfl)
      obtain ⟨_, s71, rfl⟩ := hs 4 71 (by kernel_rfl) (by kernel_rfl)
      obtain ⟨_, s75, rfl⟩ := hs 8 75 (by kernel_rfl) (by kernel_rfl)
      refine .inl ⟨wanted_yes 2 false 69 rfl (by kernel_rfl) s69, fun K hK => ?_⟩
      clear hs hb
      go_simp
      exact hK _ _ rfl (Ext.refl _)
    · intro fa fw hx hs hb
      obtain ⟨_, s69, rfl⟩ := hs 2 69 (by kernel_rfl) (by kernel_rfl)
      obtain ⟨_, s76, rfl⟩ := hs 9 76 (by kernel_rfl) (by kernel_rfl)
      refine .inl ⟨wanted_free rfl, fun K hK => ?_⟩
      clear hs hb hx
      go_simp
      exact hK _ _ rfl (Ext.refl _)
    · intro fa fw hx hs hb
      obtain ⟨_, s77, rfl⟩ := hs 10 77 (by kernel_rfl) (by kernel_rfl)
      refine .inl ⟨wanted_free rfl, fun K hK => ?_⟩
      clear hs hb hx
      go_simp
      exact hK _ _ rfl (Ext.refl _)
    · intro fa fw hx hs hb
      obtain ⟨_, s78, rfl⟩ := hs 11 78 (by kernel_rfl) (by kernel_rfl)
      have s15 : fa.tmps[(15 : Nat)]? = some (S (122 :: r)) := (hb 15 (by kernel_rfl)).trans (by rfl)
      refine .inl ⟨wanted_yes 11 false 78 rfl (by kernel_rfl) s78, fun K hK => ?_⟩
      clear hs hb hx
      go_simp
      exact hK _ _ rfl (Ext.refl _)
    · intro fa fw hx hs hb
      obtain ⟨_, s78, rfl⟩ := hs 11 78 (by kernel_rfl) (by kernel_rfl)
      obtain ⟨_, s79, rfl⟩ := hs 12 79 (by kernel_rfl) (by kernel_rfl)
      refine .inl ⟨wanted_yes 11 false 78 rfl (by kernel_rfl) s78, fun K hK => ?_⟩
      clear hs hb
      go_simp
      exact hK _ _ rfl (Ext.refl _)
    · intro fa fw hx hs hb
      obtain ⟨_, s78, rfl⟩ := hs 11 78 (by kernel_rfl) (by kernel_rfl)
      have s13 : fa.tmps[(13 : Nat)]? = some (.slice (some ⟨w.heap.size + 1 + 1 + 1, 0, none⟩) 4 4) := (hb 13 (by kernel_rfl)).trans (by rfl)
      refine .inl ⟨wanted_yes 11 false 78 rfl (by kernel_rfl) s78, fun K hK => ?_⟩
      clear hs hb hx
      go_simp
      exact hK _ _ rfl (Ext.refl _)
    · intro fa fw hx hs hb
      obtain ⟨_, s78, rfl⟩ := hs 11 78 (by kernel_rfl) (by kernel_rfl)
      have s14 : fa.tmps[(14 : Nat)]? = some (.int .i64 1) := (hb 14 (by kernel_rfl)).trans (by rfl)
      refine .inl ⟨wanted_yes 11 false 78 rfl (by kernel_rfl) s78, fun K hK => ?_⟩
      clear hs hb hx
      go_simp
      exact hK _ _ rfl (Ext.refl _)
    · intro fa fw hx hs hb
      obtain ⟨_, s78, rfl⟩ := hs 11 78 (by kernel_rfl) (by kernel_rfl)
      obtain ⟨_, s81, rfl⟩ := hs 14 81 (by kernel_rfl) (by kernel_rfl)
      obtain ⟨_, s82, rfl⟩ := hs 15 82 (by kernel_rfl) (by kernel_rfl)
      refine .inl ⟨wanted_yes 11 false 78 rfl (by kernel_rfl) s78, fun K hK => ?_⟩
      clear hs hb hx
      go_simp
      exact hK _ _ rfl (Ext.refl _)
    · intro fa fw hx hs hb
      obtain ⟨_, s78, rfl⟩ := hs 11 78 (by kernel_rfl) (by kernel_rfl)
      obtain ⟨_, s83, rfl⟩ := hs 16 83 (by kernel_rfl) (by kernel_rfl)
      have c0 := hx.keeps _ _ F0.out
      refine .inl ⟨wanted_yes 11 false 78 rfl (by kernel_rfl) s78, fun K hK => ?_⟩
      clear hs hb hx
      go_simp
      exact hK _ _ rfl (Ext.refl _)
    · intro fa fw hx hs hb
      obtain ⟨_, s78, rfl⟩ := hs 11 78 (by kernel_rfl) (by kernel_rfl)
      obtain ⟨_, s84, rfl⟩ := hs 17 84 (by kernel_rfl) (by kernel_rfl)
      refine .inl ⟨wanted_yes 11 false 78 rfl (by kernel_rfl) s78, fun K hK => ?_⟩
      clear hs hb
      go_simp
      exact hK _ _ rfl (Ext.refl _)
    · intro fa fw hx hs hb
      obtain ⟨_, s78, rfl⟩ := hs 11 78 (by kernel_rfl) (by kernel_rfl)
      obtain ⟨_, s80, rfl⟩ := hs 13 80 (by kernel_rfl) (by kernel_rfl)
      obtain ⟨_, s85, rfl⟩ := hs 18 85 (by kernel_rfl) (by kernel_rfl)
      refine .inl ⟨wanted_yes 11 false 78 rfl (by kernel_rfl) s78, fun K hK => ?_⟩
      clear hs hb
      go_simp
      exact hK _ _ rfl (Ext.refl _)
    · intro fa fw hx hs hb
      obtain ⟨_, s78, rfl⟩ := hs 11 78 (by kernel_rfl) (by kernel_rfl)
      obtain ⟨_, s86, rfl⟩ := hs 19 86 (by kernel_rfl) (by kernel_rfl)
      refine .inl ⟨wanted_free rfl, fun K hK => ?_⟩
      clear hs hb hx
      go_simp
      exact hK _ _ rfl (Ext.refl _)
  case rest =>
    intro w2 hxw2
    rintro _ rfl
    rintro _ rfl
    rintro _ rfl
    rintro _ rfl
    rintro _ rfl
    rintro _ rfl
    rintro _ rfl
    rintro _ rfl
    rintro _ rfl
    rintro _ rfl
    rintro _ rfl
    rintro _ rfl
    rintro _ rfl
    rintro _ rfl
    rintro _ rfl
    rintro _ rfl
    rintro _ rfl
    rintro _ rfl
    rintro _ rfl
    rintro _ rfl
    rintro _ rfl
    simp only [putAll, List.take, Act.put, List.setIfInBounds_toArray, List.set_cons_zero, List.set_cons_succ]
    refine wpAny_done (by kernel_rfl) ?_ _
    go_wp2_with fail
    have F1 := Lib.hid (hxw2.keeps _ _ F0.out); have E1 := Lib.hid (hxw2.keeps _ _ e0)
    refine wp_flow3 14 1 [isV (.slice (some ⟨w.heap.size + 1 + 1, 0, none⟩) 4 4), isV (.int .i64 1), isV (.pointer (some ⟨w.heap.size + 1 + 1, 1, none⟩)), isV (.int .i64 4), isV (S (122 :: r)), isV (.int .u8 122), isV (.slice (some ⟨w.heap.size + 1 + 1 + 1, 0, none⟩) 4 4), isV (.int .i64 1), isV (.pointer (some ⟨w.heap.size + 1 + 1 + 1, 1, none⟩)), isV (.int .u8 120), isV (.int .u8 2), isV (.int .i64 2), isV (.agg #[.int .i64 4, .int .i64 2]), fun v w => ∃ b, v = .pointer (some ⟨b, 0, none⟩) ∧ w2.heap.size ≤ b ∧ w.cell? ⟨b, 0, none⟩ = some (I 0) ∧ w.cell? ⟨b, 1, none⟩ = some (I 0) ∧ w.frozen? ⟨b, 0, none⟩ = false ∧ w.frozen? ⟨b, 1, none⟩ = false] (by kernel_rfl) rfl rfl (by kernel_rfl) (by kernel_rfl) ⟨isV_mono, isV_mono, isV_mono, isV_mono, isV_mono, isV_mono, isV_mono, isV_mono, isV_mono, isV_mono, isV_mono, isV_mono, isV_mono, fun v w w' ⟨b, e, h0, h1, h2, h3, h4⟩ hx => ⟨b, e, h0, hx.keeps _ _ h1, hx.keeps _ _ h2, (Below.frozen (p := ⟨b, 0, none⟩) hx (lt_of_cell h1)).trans h3, (Below.frozen (p := ⟨b, 1, none⟩) hx (lt_of_cell h2)).trans h4⟩, trivial⟩ ?each ?rest
    case each =>
      refine .cons ?_ (.cons ?_ (.cons ?_ (.cons ?_ (.cons ?_ (.cons ?_ (.cons ?_ (.cons ?_ (.cons ?_ (.cons ?_ (.cons ?_ (.cons ?_ (.cons ?_ (.cons ?_ (.nil))))))))))))))
      · intro fa fw hx hs hb
        have s12 : fa.tmps[(12 : Nat)]? = some (.slice (some ⟨w.heap.size + 1 + 1, 0, none⟩) 4 4) := (hb 12 (by kernel_rfl)).trans (by rfl)
        refine .inl ⟨wanted_free rfl, fun K hK => ?_⟩
        clear hs hb hx
        go_simp
        exact hK _ _ rfl (Ext.refl _)
      · intro fa fw hx hs hb
        have s14 : fa.tmps[(14 : Nat)]? = some (.int .i64 1) := (hb 14 (by kernel_rfl)).trans (by rfl)
        refine .inl ⟨wanted_free rfl, fun K hK => ?_⟩
        clear hs hb hx
        go_simp
        exact hK _ _ rfl (Ext.refl _)
      · intro fa fw hx hs hb
        obtain ⟨_, s89, rfl⟩ := hs 0 89 (by kernel_rfl) (by kernel_rfl)
        obtain ⟨_, s90, rfl⟩ := hs 1 90 (by kernel_rfl) (by kernel_rfl)
        refine .inl ⟨wanted_free rfl, fun K hK => ?_⟩
        clear hs hb hx
        go_simp
        exact hK _ _ rfl (Ext.refl _)
      · intro fa fw hx hs hb
        obtain ⟨_, s91, rfl⟩ := hs 2 91 (by kernel_rfl) (by kernel_rfl)
        have c0 := hx.keeps _ _ E1.out
        refine .inl ⟨wanted_free rfl, fun K hK => ?_⟩
        clear hs hb hx
        go_simp
        exact hK _ _ rfl (Ext.refl _)
      · intro fa fw hx hs hb
        have s15 : fa.tmps[(15 : Nat)]? = some (S (122 :: r)) := (hb 15 (by kernel_rfl)).trans (by rfl)
        refine .inl ⟨wanted_free rfl, fun K hK => ?_⟩
        clear hs hb hx
        go_simp
        exact hK _ _ rfl (Ext.refl _)
      · intro fa fw hx hs hb
        obtain ⟨_, s93, rfl⟩ := hs 4 93 (by kernel_rfl) (by kernel_rfl)
        refine .inl ⟨wanted_free rfl, fun K hK => ?_⟩
        clear hs hb
        go_simp
        exact hK _ _ rfl (Ext.refl _)
      · intro fa fw hx hs hb
        have s13 : fa.tmps[(13 : Nat)]? = some (.slice (some ⟨w.heap.size + 1 + 1 + 1, 0, none⟩) 4 4) := (hb 13 (by kernel_rfl)).trans (by rfl)
        refine .inl ⟨wanted_free rfl, fun K hK => ?_⟩
        clear hs hb hx
        go_simp
        exact hK _ _ rfl (Ext.refl _)
      · intro fa fw hx hs hb
        have s14 : fa.tmps[(14 : Nat)]? = some (.int .i64 1) := (hb 14 (by kernel_rfl)).trans (by rfl)
        refine .inl ⟨wanted_free rfl, fun K hK => ?_⟩
        clear hs hb hx
        go_simp
        exact hK _ _ rfl (Ext.refl _)
      · intro fa fw hx hs hb
        obtain ⟨_, s95, rfl⟩ := hs 6 95 (by kernel_rfl) (by kernel_rfl)
        obtain ⟨_, s96, rfl⟩ := hs 7 96 (by kernel_rfl) (by kernel_rfl)
        refine .inl ⟨wanted_free rfl, fun K hK => ?_⟩
        clear hs hb hx
        go_simp
        exact hK _ _ rfl (Ext.refl _)
      · intro fa fw hx hs hb
        obtain ⟨_, s97, rfl⟩ := hs 8 97 (by kernel_rfl) (by kernel_rfl)
        have c0 := hx.keeps _ _ F1.out
        refine .inl ⟨wanted_free rfl, fun K hK => ?_⟩
        clear hs hb hx
        go_simp
        exact hK _ _ rfl (Ext.refl _)
      · intro fa fw hx hs hb
        obtain ⟨_, s94, rfl⟩ := hs 5 94 (by kernel_rfl) (by kernel_rfl)
        obtain ⟨_, s98, rfl⟩ := hs 9 98 (by kernel_rfl) (by kernel_rfl)
        refine .inl ⟨wanted_free rfl, fun K hK => ?_⟩
        clear hs hb
        go_simp
        exact hK _ _ rfl (Ext.refl _)
      · intro fa fw hx hs hb
        obtain ⟨_, s99, rfl⟩ := hs 10 99 (by kernel_rfl) (by kernel_rfl)
        refine .inl ⟨wanted_free rfl, fun K hK => ?_⟩
        clear hs hb
        go_simp
        exact hK _ _ rfl (Ext.refl _)
      · intro fa fw hx hs hb
        obtain ⟨_, s92, rfl⟩ := hs 3 92 (by kernel_rfl) (by kernel_rfl)
        obtain ⟨_, s100, rfl⟩ := hs 11 100 (by kernel_rfl) (by kernel_rfl)
        refine .inl ⟨wanted_free rfl, fun K hK => ?_⟩
        clear hs hb
        go_simp
        exact hK _ _ rfl (Ext.refl _)
      · intro fa fw hx hs hb
        refine .inl ⟨wanted_free rfl, fun K hK => ?_⟩
        clear hs hb
        go_simp
        exact hK _ _ ⟨_, rfl, hx.size, by rw [World.cell?_alloc_new]; rfl, by rw [World.cell?_alloc_new]; rfl, World.frozen?_alloc_at _ _ _ _ rfl, World.frozen?_alloc_at _ _ _ _ rfl⟩ ((Ext.refl _).alloc _)
    case rest =>
      intro w3 hxw3
      rintro _ rfl
      rintro _ rfl
      rintro _ rfl
      rintro _ rfl
      rintro _ rfl
      rintro _ rfl
      rintro _ rfl
      rintro _ rfl
      rintro _ rfl
      rintro _ rfl
      rintro _ rfl
      rintro _ rfl
      rintro _ rfl
      rintro _ ⟨b17, rfl, q17⟩
      simp only [putAll, List.take, Act.put, List.setIfInBounds_toArray, List.set_cons_zero, List.set_cons_succ]
      obtain ⟨qb0, qb1, qb2, qb3, qb4⟩ := q17
      refine wpAny_ready (rs := [14]) (by kernel_rfl) (by simp) (AllReady.cons rfl (fun KK hKK => ?_) AllReady.nil)
      go_simp
      refine hKK _ _ ?_
      clear hKK KK
      refine wpAny_done (by kernel_rfl) ?_ _
      have k0 : ((w3.setCell ⟨b17, 0, none⟩ (.int .i64 4)).setCell ⟨b17, 1, none⟩ (.int .i64 2)).cell? ⟨b17, 0, none⟩ = some (.int .i64 4) := (World.cell?_setCell_other _ _ _ _ (by simp)).trans (World.cell?_setCell_same _ _ _ qb1)
      have k1 : ((w3.setCell ⟨b17, 0, none⟩ (.int .i64 4)).setCell ⟨b17, 1, none⟩ (.int .i64 2)).cell? ⟨b17, 1, none⟩ = some (.int .i64 2) := World.cell?_setCell_same _ _ _ ((World.cell?_setCell_other _ _ _ _ (by simp)).trans qb2)
      have x4 : Ext w ((w3.setCell ⟨b17, 0, none⟩ (.int .i64 4)).setCell ⟨b17, 1, none⟩ (.int .i64 2)) := (((xf.trans hxw2).trans hxw3).setCell (by show w.heap.size ≤ b17; have := (xf.trans hxw2).size; omega) _).setCell (by show w.heap.size ≤ b17; have := (xf.trans hxw2).size; omega) _
      generalize (w3.setCell ⟨b17, 0, none⟩ (.int .i64 4)).setCell ⟨b17, 1, none⟩ (.int .i64 2) = w4 at *
      clear qb1 qb2 qb3 qb4
      have hrl : r.length ≤ 5000 := by have := rest_len wAwait s; rw [HQ'.out] at this; simp at this; omega
      go_wp2
      rw [ba_tail1]
      refine bodyPost_ret (v := Pr3 (.slice (some ⟨w4.heap.size, 0, none⟩) 1 1) (S r) (.bool true)) (by simp [results, Tryz.results42, go_sem]) rfl ⟨_, 1, rfl, ?_, by simp [Tr.size], by unfold maxLen; omega, by simp [Tr.size], hrl, x4.alloc _⟩
      exact Sl2.newAt PK PS _ _ [⟨4, 2⟩] _ _ rfl rfl
set_option maxHeartbeats 400000 in
theorem from_open (w : World) (s : List UInt8) (l : Nat) (hs : s.length ≤ 5000) (hl : l ≤ 13) (hi0 : isP wNothing s = false) (hi1 : isP wPause s = false) (hi2 : isP wHalt s = false) (hi3 : isP wEmit s = false) (hi4 : isP wAwait s = false) (hi5 : isP wIf s = false) (hi6 : isP wWas s = false) (hi7 : isP wOpen s = true) {n : Nat} (hN : FromOK n) (hn : l < n) {T V : Option (Tr × List UInt8)} (ht : rtwoT (rreadT n) l ⟨5, 0⟩ [] wSemi wClose (restP wOpen s) = T) (hv : rtwoT (rreadT n) l ⟨6, 0⟩ [] wBar wClose (restP wOpen s) = V) :
    Calls Tryz.prog 42 #[S s, I ((l : Int) + 1)] w (FromPost w (l + 1) (T.or V)) := by
  have HI0 := Lib.hid hi0; clear hi0
  have HI1 := Lib.hid hi1; clear hi1
  have HI2 := Lib.hid hi2; clear hi2
  have HI3 := Lib.hid hi3; clear hi3
  have HI4 := Lib.hid hi4; clear hi4
  have HI5 := Lib.hid hi5; clear hi5
  have HI6 := Lib.hid hi6; clear hi6
  have HI7 := Lib.hid hi7; clear hi7
  have HT' := Lib.hid ht; clear ht
  have HV' := Lib.hid hv; clear hv
  go_enter Tryz.func42, Tryz.ntmps42
  go_wp2_with fail
  refine wp_loop_rounds 4 ?_
  rw [rounds_succ]
  go_wp2_with fail
  refine (after_any s wNothing (by omega) (by decide) _).mono ?_; rintro e w' ⟨rfl, rfl⟩; rw [HI0.out]
  go_wp2_with fail
  rw [rounds_succ]
  go_wp2_with fail
  refine (after_any s wPause (by omega) (by decide) _).mono ?_; rintro e w' ⟨rfl, rfl⟩; rw [HI1.out]
  go_wp2_with fail
  rw [rounds_succ]
  go_wp2_with fail
  refine (after_any s wHalt (by omega) (by decide) _).mono ?_; rintro e w' ⟨rfl, rfl⟩; rw [HI2.out]
  go_wp2_with fail
  rw [rounds_succ]
  go_wp2_with fail
  rw [rfW_eq]
  have d0 := rfW_word w 0 _ rfl
  have d1 := rfW_word w 1 _ rfl
  have d2 := rfW_word w 2 _ rfl
  have d3 := rfW_word w 3 _ rfl
  have e0 := rfW_kind w 0 _ rfl
  have f0 := rfW_first w 0 _ rfl
  have xf := rfW_ext w
  have hsz := rfW_size w
  generalize rfW w = wf at *
  refine wp_loop_rounds 5 ?_
  rw [rounds_succ]
  go_wp2_with fail
  refine (after_any s wEmit (by omega) (by decide) _).mono ?_; rintro e w' ⟨rfl, rfl⟩; rw [HI3.out]
  go_wp2_with fail
  rw [rounds_succ]
  go_wp2_with fail
  refine (after_any s wAwait (by omega) (by decide) _).mono ?_; rintro e w' ⟨rfl, rfl⟩; rw [HI4.out]
  go_wp2_with fail
  rw [rounds_succ]
  go_wp2_with fail
  refine (after_any s wIf (by omega) (by decide) _).mono ?_; rintro e w' ⟨rfl, rfl⟩; rw [HI5.out]
  go_wp2_with fail
  rw [rounds_succ]
  go_wp2_with fail
  refine (after_any s wWas (by omega) (by decide) _).mono ?_; rintro e w' ⟨rfl, rfl⟩; rw [HI6.out]
  go_wp2_with fail
  rw [rounds_succ]
  go_wp2_with fail
  refine (after_any s wOpen (by omega) (by decide) _).mono ?_; rintro e w' ⟨rfl, rfl⟩; rw [HI7.out]
  have hr := rest_len wOpen s
  go_wp2_with fail
  refine (twoR_any hN _ ⟨5, 0⟩ (restP wOpen s) [] wSemi wClose l (by omega) (by decide) (by decide) (by decide) hl hn).mono ?_
  rintro e w5 h5
  rw [HT'.out] at h5
  rcases T with _ | q
  · obtain ⟨u, v, rfl, x5⟩ := h5
    have X5 := Lib.hid (xf.trans x5)
    go_wp2_with fail
    refine (twoR_any hN _ ⟨6, 0⟩ (restP wOpen s) [] wBar wClose l (by omega) (by decide) (by decide) (by decide) hl hn).mono ?_
    rintro e w6 h6
    rw [HV'.out] at h6
    rcases V with _ | q
    · obtain ⟨u, v, rfl, x6⟩ := h6
      go_wp2
      exact bodyPost_ret (v := Pr3 u v (.bool false)) (by simp [results, Tryz.results42, go_sem]) rfl ⟨_, _, rfl, X5.out.trans x6⟩
    · obtain ⟨A, c, rfl, y1, y2, y3, y4, y5, x6⟩ := h6
      go_wp2
      exact bodyPost_ret (v := Pr3 (.slice A q.1.size c) (S q.2) (.bool true)) (by simp [results, Tryz.results42, go_sem]) rfl ⟨A, c, rfl, y1, y2, y3, y4, y5, X5.out.trans x6⟩
  · obtain ⟨A, c, rfl, y1, y2, y3, y4, y5, x5⟩ := h5
    go_wp2
    exact bodyPost_ret (v := Pr3 (.slice A q.1.size c) (S q.2) (.bool true)) (by simp [results, Tryz.results42, go_sem]) rfl ⟨A, c, rfl, y1, y2, y3, y4, y5, xf.trans x5⟩
set_option maxHeartbeats 400000 in
theorem from_none (w : World) (s : List UInt8) (l : Nat) (hs : s.length ≤ 5000) (hl : l ≤ 13) (hi0 : isP wNothing s = false) (hi1 : isP wPause s = false) (hi2 : isP wHalt s = false) (hi3 : isP wEmit s = false) (hi4 : isP wAwait s = false) (hi5 : isP wIf s = false) (hi6 : isP wWas s = false) (hi7 : isP wOpen s = false) :
    Calls Tryz.prog 42 #[S s, I ((l : Int) + 1)] w fun e w' => ∃ u v, e = .returned (Pr3 u v (.bool false)) ∧ Ext w w' := by
  have HI0 := Lib.hid hi0; clear hi0
  have HI1 := Lib.hid hi1; clear hi1
  have HI2 := Lib.hid hi2; clear hi2
  have HI3 := Lib.hid hi3; clear hi3
  have HI4 := Lib.hid hi4; clear hi4
  have HI5 := Lib.hid hi5; clear hi5
  have HI6 := Lib.hid hi6; clear hi6
  have HI7 := Lib.hid hi7; clear hi7
  go_enter Tryz.func42, Tryz.ntmps42
  go_wp2_with fail
  refine wp_loop_rounds 4 ?_
  rw [rounds_succ]
  go_wp2_with fail
  refine (after_any s wNothing (by omega) (by decide) _).mono ?_; rintro e w' ⟨rfl, rfl⟩; rw [HI0.out]
  go_wp2_with fail
  rw [rounds_succ]
  go_wp2_with fail
  refine (after_any s wPause (by omega) (by decide) _).mono ?_; rintro e w' ⟨rfl, rfl⟩; rw [HI1.out]
  go_wp2_with fail
  rw [rounds_succ]
  go_wp2_with fail
  refine (after_any s wHalt (by omega) (by decide) _).mono ?_; rintro e w' ⟨rfl, rfl⟩; rw [HI2.out]
  go_wp2_with fail
  rw [rounds_succ]
  go_wp2_with fail
  rw [rfW_eq]
  have d0 := rfW_word w 0 _ rfl
  have d1 := rfW_word w 1 _ rfl
  have d2 := rfW_word w 2 _ rfl
  have d3 := rfW_word w 3 _ rfl
  have e0 := rfW_kind w 0 _ rfl
  have f0 := rfW_first w 0 _ rfl
  have xf := rfW_ext w
  have hsz := rfW_size w
  generalize rfW w = wf at *
  refine wp_loop_rounds 5 ?_
  rw [rounds_succ]
  go_wp2_with fail
  refine (after_any s wEmit (by omega) (by decide) _).mono ?_; rintro e w' ⟨rfl, rfl⟩; rw [HI3.out]
  go_wp2_with fail
  rw [rounds_succ]
  go_wp2_with fail
  refine (after_any s wAwait (by omega) (by decide) _).mono ?_; rintro e w' ⟨rfl, rfl⟩; rw [HI4.out]
  go_wp2_with fail
  rw [rounds_succ]
  go_wp2_with fail
  refine (after_any s wIf (by omega) (by decide) _).mono ?_; rintro e w' ⟨rfl, rfl⟩; rw [HI5.out]
  go_wp2_with fail
  rw [rounds_succ]
  go_wp2_with fail
  refine (after_any s wWas (by omega) (by decide) _).mono ?_; rintro e w' ⟨rfl, rfl⟩; rw [HI6.out]
  go_wp2_with fail
  rw [rounds_succ]
  go_wp2_with fail
  refine (after_any s wOpen (by omega) (by decide) _).mono ?_; rintro e w' ⟨rfl, rfl⟩; rw [HI7.out]
  go_wp2
  exact bodyPost_ret (v := Pr3 (.slice none 0 0) (S s) (.bool false)) (by simp [results, Tryz.results42, go_sem]) rfl ⟨_, _, rfl, xf⟩
theorem from_zero (w : World) (s : List UInt8) (left : Int) (hl : left ≤ 0) :
    Calls Tryz.prog 42 #[S s, I left] w fun e w' => ∃ u v, e = .returned (Pr3 u v (.bool false)) ∧ Ext w w' := by
  go_enter Tryz.func42, Tryz.ntmps42
  go_wp2
  exact bodyPost_ret (v := Pr3 (.slice none 0 0) (S s) (.bool false)) (by simp [results, Tryz.results42, go_sem]) rfl ⟨_, _, rfl, Ext.refl _⟩
end Go.Proofs.YtgohhcnmkomafaaGreatDoor
