/- inputs, by the program; Digits, joined, after, inputsFrom by the reference. -/
import Derived.Test.YtgohhcnmkomafaaDoorDt05
import Derived.Test.YtgohhcnmkomafaaDoorDt03
import Derived.Test.YtgohhcnmkomafaaDoorDt01
namespace Go.Proofs.YtgohhcnmkomafaaDoor
set_option linter.unusedVariables false
set_option linter.unusedSimpArgs false
set_option linter.unusedVariables false
set_option linter.unusedSimpArgs false
set_option maxRecDepth 100000
open Go.RowKit
theorem ins_cases : ∀ x, x < 8 → ∀ k, k < 3 → topX x < (k : Nat) → (x = 0 ∧ k = 0) ∨ (x = 0 ∧ k = 1) ∨ (x = 0 ∧ k = 2) ∨ (x = 1 ∧ k = 1) ∨ (x = 1 ∧ k = 2) ∨ (x = 2 ∧ k = 2) ∨ (x = 3 ∧ k = 2) := by
  intro x hx k hk h
  unfold topX at h
  split at h
  · omega
  split at h
  · omega
  split at h <;> omega
theorem topX0 : topX 0 = -1 := rfl
theorem topX1 : topX 1 = 0 := rfl
theorem topX2 : topX 2 = 1 := rfl
theorem topX3 : topX 3 = 1 := rfl
theorem ix0 : Lib.index xyzB [120] = 0 := by decide
theorem ix1 : Lib.index xyzB [121] = 1 := by decide
theorem ix2 : Lib.index xyzB [122] = 2 := by decide
/-- What inputs tells. -/
def insV (ws : List (List UInt8)) : Value := match insOf ws with | some x => Pr (I x) (.bool true) | none => Pr (I 0) (.bool false)
theorem insWords_len : ∀ x, x < 8 → (insWords x).length ≤ 3 := by decide
set_option maxHeartbeats 8000000 in
theorem inputs_any (A : Option Addr) (n c : Nat) (ws : List (List UInt8)) (m : Int) (w : World) (hm : w.cell? ⟨0, 0, none⟩ = some (.int .i64 m)) (h : Sl w A n (ws.map S)) (hn : n ≤ 5000) :
    Calls Tryd.prog 45 #[.slice A n c] w fun e w' => e = .returned (insV ws) ∧ w = w' := by
  have H := Lib.hid h; have HML := Lib.hid hm
  have hl : ws.length = n := h.len
  clear h hm
  go_enter Tryd.func45, Tryd.ntmps45
  go_wp2
  obtain ⟨wl, hwl⟩ : ∃ q, q = w := ⟨_, rfl⟩
  go_loopw [4, 5, 11] (fun a b i wr => ∃ (k x : Nat), k ≤ n ∧ i = .int .i64 k ∧ x < 8 ∧ k = (insWords x).length ∧ ws.take k = insWords x ∧ a = .int .i64 (x : Nat) ∧ b = .int .i64 (topX x) ∧ wl = wr) (fun _ _ i _ => n - (intOf i).toNat)
  case atStart => exact ⟨0, 0, Nat.zero_le _, rfl, by omega, rfl, rfl, rfl, rfl, hwl⟩
  case round =>
    obtain ⟨k, x, hk, rfl, hx8, hkx, htk, rfl, rfl, hw⟩ := hrel
    subst hw
    subst hwl
    by_cases hlt : k < n
    · obtain ⟨b, off, u, rfl, hc, hu⟩ := H.out.at_ hlt
      have hk3 : k ≤ 3 := by rw [hkx]; exact insWords_len x hx8
      by_cases hg : goodW x u
      · obtain ⟨q, hq, hue, hiq, htq⟩ := goodW_is hg
        obtain ⟨n1, n2, n3⟩ := ins_next x hx8 q hq htq
        have hnext : ws.take (k + 1) = insWords (x + 2 ^ q) := by rw [List.take_add_one, hu, htk, n1, hue]; rfl
        have hlen2 : k + 1 = (insWords (x + 2 ^ q)).length := by rw [n1, List.length_append, ← hkx]; rfl
        have HNX := Lib.hid hnext; have HL2 := Lib.hid hlen2; have HN2 := Lib.hid n2; have HN3 := Lib.hid n3; have HIQ := Lib.hid hiq
        have hu1 : u.length = 1 := hg.1
        have hc2 : wl.cell? ⟨b, off + k, none⟩ = some (S u) := hc
        rcases ins_cases x hx8 q hq htq with ⟨rfl, rfl⟩ | ⟨rfl, rfl⟩ | ⟨rfl, rfl⟩ | ⟨rfl, rfl⟩ | ⟨rfl, rfl⟩ | ⟨rfl, rfl⟩ | ⟨rfl, rfl⟩
        all_goals
          subst hue
          clear hg hu hnext hlen2 n1 n2 n3 hiq hu1 hc htq hq hkx htk hx8
          simp only [topX0, topX1, topX2, topX3]
          go_wp2_with fail
          refine (index_any xyzB _ _ wl (by decide) HML.out).mono ?_; rintro e w1 ⟨rfl, rfl⟩; simp only [ix0, ix1, ix2]
          go_wp2_with fail
          go_roundw
          case rel => exact ⟨k + 1, _, by omega, by go_num, HN3.out, HL2.out, HNX.out, by first | rfl | decide, by rw [HN2.out]; first | rfl | decide, by first | rfl | trivial⟩
          case measure => simp [intOf]; omega
      · have hno := badW_none hx8 htk hkx hu hg
        have hv : insV ws = Pr (I 0) (.bool false) := by unfold insV; rw [hno]
        have HV := Lib.hid hv
        have hc2 : wl.cell? ⟨b, off + k, none⟩ = some (S u) := hc
        have hsz : ((⟨u.toArray⟩ : ByteArray).size : Int) = u.length := rfl
        obtain ⟨iq, hiq⟩ : ∃ iq, Lib.index xyzB u = iq := ⟨_, rfl⟩
        have HIQ := Lib.hid hiq
        obtain ⟨tp, htp⟩ : ∃ tp, topX x = tp := ⟨_, rfl⟩
        rw [htp]
        by_cases hu1 : u.length = 1
        · have hle : (decide (iq ≤ tp)) = true := decide_eq_true (by rw [← hiq, ← htp]; exact Int.not_lt.1 (fun e => hg ⟨hu1, e⟩))
          have hbn : (((⟨u.toArray⟩ : ByteArray).size : Int) != 1) = false := by rw [hsz, hu1]; rfl
          clear hg hu hno hv hc htk hkx hiq htp hsz
          go_wp2_with fail
          refine (index_any xyzB _ _ wl (by decide) HML.out).mono ?_; rintro e w1 ⟨rfl, rfl⟩; rw [HIQ.out]
          go_wp2
          go_ret2
          exact ⟨by rw [HV.out]; rfl, rfl⟩
        · have hbn : (((⟨u.toArray⟩ : ByteArray).size : Int) != 1) = true := by rw [hsz]; simp; omega
          clear hg hu hno hv hc htk hkx hiq htp hsz
          go_wp2_with fail
          refine (index_any xyzB _ _ wl (by decide) HML.out).mono ?_; rintro e w1 ⟨rfl, rfl⟩; rw [HIQ.out]
          go_wp2
          go_ret2
          exact ⟨by rw [HV.out]; rfl, rfl⟩
    · have hkn : k = n := by omega
      subst hkn
      have hws : ws = insWords x := by rw [← htk, List.take_of_length_le (by omega)]
      have hv : insV ws = Pr (I x) (.bool true) := by unfold insV; rw [hws, insOf_words x hx8]
      have HV := Lib.hid hv
      clear hws hv htk hkx
      go_wp2
      go_ret2
      exact ⟨by rw [HV.out]; rfl, rfl⟩
end Go.Proofs.YtgohhcnmkomafaaDoor
/- A row of one-cell elements of the call's own that may begin within its block: a queue. No program in sight. -/
namespace Go.Proofs.YtgohhcnmkomafaaDoor
set_option linter.unusedVariables false
set_option linter.unusedSimpArgs false
open Go.RowKit
/-- All that was there is as it was, but for two blocks; new memory may have come. -/
structure Aside (g1 g2 : Nat) (w w' : World) : Prop where
  os : w'.os = w.os
  tape : w'.tape = w.tape
  output : w'.output = w.output
  size : w.heap.size ≤ w'.heap.size
  block : ∀ k, k < w.heap.size → k ≠ g1 → k ≠ g2 → w'.heap[k]? = w.heap[k]?
section
variable {g1 g2 : Nat} {a b c : World}
theorem Aside.refl (g1 g2 : Nat) (w : World) : Aside g1 g2 w w := ⟨rfl, rfl, rfl, Nat.le_refl _, fun _ _ _ _ => rfl⟩
theorem Aside.more (h : Aside g1 g2 a b) (k : Ext b c) : Aside g1 g2 a c :=
  ⟨k.os.trans h.os, k.tape.trans h.tape, k.output.trans h.output, Nat.le_trans h.size k.size, fun i hi h1 h2 => (k.block i (Nat.lt_of_lt_of_le hi h.size)).trans (h.block i hi h1 h2)⟩
theorem Aside.set1 (h : Aside g1 g2 a b) (j : Nat) (v : Value) : Aside g1 g2 a (b.setCell ⟨g1, j, none⟩ v) :=
  ⟨h.os, h.tape, h.output, by simpa using h.size, fun i hi h1 h2 => by rw [heap_setCell_other b ⟨g1, j, none⟩ i v h1]; exact h.block i hi h1 h2⟩
theorem Aside.grown {row : Option Nat} (h : Aside g1 g2 a b) (hg : b.grownBy c row) (hr : ∀ k, row = some k → k = g2 ∨ a.heap.size ≤ k) : Aside g1 g2 a c :=
  ⟨hg.os.trans h.os, hg.tape.trans h.tape, hg.output.trans h.output, Nat.le_trans h.size hg.size, fun i hi h1 h2 => (hg.block i (Nat.lt_of_lt_of_le hi h.size) (fun e => by rcases hr i e.symm with q | q <;> omega)).trans (h.block i hi h1 h2)⟩
theorem Aside.cell (h : Aside g1 g2 a b) {p : Addr} {u : Value} (hc : a.cell? p = some u) (h1 : p.block ≠ g1) (h2 : p.block ≠ g2) : b.cell? p = some u :=
  (World.cell?_of_block (h.block p.block (lt_of_cell hc) h1 h2)).trans hc
theorem Aside.ext {w0 : World} (h : Aside g1 g2 a b) (e : Ext w0 a) (h1 : w0.heap.size ≤ g1) (h2 : w0.heap.size ≤ g2) : Ext w0 b :=
  ⟨h.os.trans e.os, h.tape.trans e.tape, h.output.trans e.output, Nat.le_trans e.size h.size, fun i hi => (h.block i (Nat.lt_of_lt_of_le hi e.size) (by omega) (by omega)).trans (e.block i hi)⟩
end
def OwnQ (w : World) (base : Nat) (e : TypeId) (v : Value) (xs : List Value) : Prop :=
  (v = .slice none 0 0 ∧ xs = []) ∨ ∃ g off cap cur, v = .slice (some ⟨g, off, none⟩) xs.length cap ∧ base ≤ g ∧ w.heap[g]? = some (.cells cur e (0, 0)) ∧ xs.length ≤ cap ∧ cap ≤ maxLen ∧ off + cap ≤ cur.size ∧ (cur.toList.drop off).take xs.length = xs
section
variable {w w' : World} {base : Nat} {e : TypeId} {v : Value} {n : Nat} {xs : List Value}
theorem OwnQ.lt (h : OwnQ w base e v xs) : ∀ k, v.ownBlock = some k → base ≤ k ∧ k < w.heap.size := by
  intro k hk
  rcases h with ⟨rfl, _⟩ | ⟨g, off, cap, cur, rfl, hb, hg, _⟩
  · simp [Value.ownBlock] at hk
  · simp [Value.ownBlock] at hk
    subst hk
    exact ⟨hb, (Array.getElem?_eq_some_iff.1 hg).1⟩
theorem OwnQ.kept {row : Option Nat} (h : OwnQ w base e v xs) (hg : w.grownBy w' row) (hne : v.ownBlock = none ∨ v.ownBlock ≠ row) : OwnQ w' base e v xs := by
  rcases h with h | ⟨g, off, cap, cur, rfl, hb, hgg, rest⟩
  · exact .inl h
  · refine .inr ⟨g, off, cap, cur, rfl, hb, ?_, rest⟩
    rw [hg.block g (Array.getElem?_eq_some_iff.1 hgg).1 (by simpa [Value.ownBlock] using hne)]
    exact hgg
theorem OwnQ.ext (h : OwnQ w base e v xs) (hx : Ext w w') : OwnQ w' base e v xs := by
  rcases h with h | ⟨g, off, cap, cur, rfl, hb, hgg, rest⟩
  · exact .inl h
  · exact .inr ⟨g, off, cap, cur, rfl, hb, (hx.block g (Array.getElem?_eq_some_iff.1 hgg).1).trans hgg, rest⟩
theorem OwnQ.cell {g off cap : Nat} (h : OwnQ w base e (.slice (some ⟨g, off, none⟩) n cap) xs) : ∀ j u, xs[j]? = some u → w.cell? ⟨g, off + j, none⟩ = some u := by
  intro j u hu
  rcases h with ⟨h0, _⟩ | ⟨g', off', cap', cur, hv, _, hgg, _, _, _, ht⟩
  · cases h0
  · injection hv with h1 _ _
    injection h1 with h1; injection h1 with h1 h2
    subst h1; subst h2
    rw [cell_of_row w g (off + j) cur e (0, 0) hgg]
    rw [← ht, List.getElem?_take] at hu
    split at hu
    · rw [List.getElem?_drop] at hu; simpa using hu
    · cases hu
theorem OwnQ.slice (h : OwnQ w base e v xs) : ∃ A c, v = .slice A xs.length c ∧ xs.length ≤ c ∧ c ≤ maxLen ∧ Sl w A xs.length xs := by
  have h' := h
  rcases h with ⟨rfl, rfl⟩ | ⟨g, off, cap, cur, rfl, _, hgg, hnc, hm, _, _⟩
  · exact ⟨none, 0, rfl, Nat.le_refl _, Nat.zero_le _, Sl.nil _ _⟩
  · exact ⟨_, _, rfl, hnc, hm, rfl, fun k u hu => ⟨g, off, rfl, h'.cell k u hu⟩⟩
/-- The first is taken off. -/
theorem OwnQ.tail {x : Value} (h : OwnQ w base e v (x :: xs)) : ∃ g off c, v = .slice (some ⟨g, off, none⟩) (xs.length + 1) c ∧ xs.length + 1 ≤ c ∧ c ≤ maxLen ∧ w.cell? ⟨g, off, none⟩ = some x ∧
    OwnQ w base e (.slice (some (if c = 1 then ⟨g, off, none⟩ else ⟨g, off + 1, none⟩)) xs.length (c - 1)) xs := by
  have h' := h
  rcases h with ⟨_, h0⟩ | ⟨g, off, cap, cur, rfl, hb, hgg, hnc, hm, hcs, ht⟩
  · cases h0
  · simp only [List.length_cons] at hnc ht ⊢
    refine ⟨g, off, cap, rfl, hnc, hm, by simpa using h'.cell 0 x (by simp), ?_⟩
    by_cases h1 : cap = 1
    · rw [if_pos h1]
      have : xs = [] := List.eq_nil_of_length_eq_zero (by omega)
      subst this
      exact .inr ⟨g, off, cap - 1, cur, rfl, hb, hgg, by simp, by omega, by omega, by simp⟩
    · rw [if_neg h1]
      refine .inr ⟨g, off + 1, cap - 1, cur, rfl, hb, hgg, by omega, by omega, by omega, ?_⟩
      have e1 : cur.toList.drop (off + 1) = (cur.toList.drop off).tail := by rw [List.tail_drop]
      have e2 : ∀ (l : List Value) (n : Nat), l.tail.take n = (l.take (n + 1)).tail := fun l n => by cases l <;> simp
      rw [e1, e2, ht]; rfl
end
/-- append onto such a row. -/
theorem OwnQ.append {P : Program} {w : World} (t ty e : TypeId) {z : Value} {bytes : Nat} (tab : (P.info? e).map (fun i => (i.zero, i.size, i.bytes)) = some (some z, 1, bytes)) (ht : P.underlying t = some (.slice e)) (hzs : z.cells.size = 1) (h8 : bytes ≤ 65536)
    {base : Nat} (hbase : base ≤ w.heap.size) {v : Value} {xs : List Value} (hown : OwnQ w base e v xs) (A : Option Addr) (m c : Nat) (news : List Value) (hr : Sl w A m news) (h1 : ∀ u ∈ news, u.oneCell' = true)
    (hbytes : (xs.length + m) * bytes ≤ 140737489403904) (hm4 : xs.length + m ≤ 9007199254740992) :
    ∃ v' w', (Builtin.append_ #[t, t] ty #[v, .slice A m c]).run P w = .ok v' w' ∧ OwnQ w' base e v' (xs ++ news) ∧ w.grownBy w' v.ownBlock ∧ ∀ k, v'.ownBlock = some k → v.ownBlock = some k ∨ w.heap.size ≤ k := by
  have h63 : xs.length + m ≤ maxLen := by unfold maxLen; omega
  obtain ⟨i, hi, hz, hs1, hs2⟩ := info_parts tab
  rcases Nat.eq_zero_or_pos m with hm0 | hmp
  · subst hm0
    have hn : news = [] := List.eq_nil_of_length_eq_zero hr.1
    subst hn
    refine ⟨v, w, ?_, by simpa using hown, World.grownBy.refl w _, fun k hk => .inl hk⟩
    rcases hown with ⟨rfl, rfl⟩ | ⟨g, off, cap, cur, rfl, _, _, hnc, _⟩
    · simp [Builtin.append_, run_underlying ht, sizeOf, typeInfo, hi, Builtin.lenOf, Builtin.firstCells, loadCells, loadCellsFrom]
      try (cases A <;> simp [Builtin.firstCells, loadCells, loadCellsFrom])
    · simp [Builtin.append_, run_underlying ht, sizeOf, typeInfo, hi, Builtin.lenOf, hnc]
      cases A <;> simp [Builtin.firstCells, loadCells, loadCellsFrom, storeCells]
  obtain ⟨b, off0, rfl⟩ : ∃ b off, A = some ⟨b, off, none⟩ := by
    have hl : 0 < news.length := by rw [hr.1]; exact hmp
    obtain ⟨b, off, e2, _⟩ := hr.2 0 _ (List.getElem?_eq_getElem hl)
    exact ⟨b, off, e2⟩
  have hcells : ∀ j u, news[j]? = some u → w.cell? ((⟨b, off0, none⟩ : Addr).add j) = some u := by
    intro j u hu
    obtain ⟨b', off', e2, hc⟩ := hr.2 j u hu
    injection e2 with e2; injection e2 with e2 e3
    subst e2; subst e3
    rw [add_plain']; exact hc
  have hnl : news.length = m * i.size := by rw [hs1, hr.1]; omega
  have hlen : (xs ++ news).length = xs.length + m := by rw [List.length_append, hr.1]
  have grown : ∀ (old : Nat) (row : Option Nat),
      OwnQ (w.drew.alloc (.cells (xs.toArray ++ news.toArray ++ Builtin.zeroCells z.cells (grownCap w (xs.length + m) old e - (xs.length + m))) e)) base e
        (.slice (some ⟨w.heap.size, 0, none⟩) (xs.length + m) (grownCap w (xs.length + m) old e)) (xs ++ news) ∧
      w.grownBy (w.drew.alloc (.cells (xs.toArray ++ news.toArray ++ Builtin.zeroCells z.cells (grownCap w (xs.length + m) old e - (xs.length + m))) e)) row := by
    intro old row
    have hge := grownCap_ge w (xs.length + m) old e
    refine ⟨.inr ⟨w.heap.size, 0, _, _, by rw [hlen], hbase, heap_alloc_new w.drew _, by rw [hlen]; exact hge, grownCap_le_maxLen w _ old e h63, ?_, ?_⟩, ⟨rfl, rfl, rfl, by simp, fun k hk _ => Below.heap_alloc w.drew _ k hk⟩⟩
    · simp only [Array.size_append, List.size_toArray, size_zeroCells, hzs, hr.1, Nat.mul_one]
      omega
    · simp only [Array.toList_append, List.append_assoc, List.drop_zero]
      rw [← List.append_assoc]
      exact List.take_left
  rcases hown with ⟨rfl, rfl⟩ | ⟨g, off, cap, cur, rfl, hbg, hg, hnc, hcm, hcs, htake⟩
  · have hr0 := run_append_nil (P := P) w t ty e i z ht hi hz ⟨b, off0, none⟩ m c news hnl hcells hmp (by omega) (by rw [hs2]; simp only [List.length_nil, Nat.zero_add] at hbytes; omega)
    have hgr := grown 0 (Value.ownBlock (.slice none 0 0))
    simp only [List.length_nil, Nat.zero_add, List.nil_append, Array.empty_append] at hgr ⊢
    exact ⟨_, _, hr0, hgr.1, hgr.2, fun k hk => .inr (by simp [Value.ownBlock] at hk; omega)⟩
  · by_cases hroom : xs.length + m ≤ cap
    · have hf := run_firstCells_some (P := P) w i.size m ⟨b, off0, none⟩ m c news hnl hcells
      have hst := run_storeCells_at P g (off + xs.length) e news 0 cur w hg (by rw [hr.1]; omega) h1
      simp only [Nat.add_zero] at hst
      have hrun : (Builtin.append_ #[t, t] ty #[.slice (some ⟨g, off, none⟩) xs.length cap, .slice (some ⟨b, off0, none⟩) m c]).run P w =
          .ok (.slice (some ⟨g, off, none⟩) (xs.length + m) cap) (w.setRow g (cur.toList.take (off + xs.length) ++ news ++ cur.toList.drop (off + xs.length + news.length)).toArray) := by
        rw [hs1] at hf
        simp [Builtin.append_, run_underlying ht, sizeOf, typeInfo, hi, hs1, Builtin.lenOf, hroom, hf, add_plain', hst]
      refine ⟨_, _, hrun, .inr ⟨g, off, cap, _, by rw [hlen], hbg, setRow_heap w g cur _ e _ hg, by rw [hlen]; exact hroom, hcm, ?_, ?_⟩, ⟨rfl, rfl, rfl, by simp, fun k _ hk => setRow_other w g k _ (fun e => hk (by simp [Value.ownBlock, e]))⟩, fun k hk => .inl hk⟩
      · have := hr.1
        simp only [List.size_toArray, List.length_append, List.length_take, List.length_drop, Array.length_toList]
        omega
      · have h2 : off ≤ (cur.toList.take (off + xs.length)).length := by simp; omega
        have h3 : (cur.toList.take (off + xs.length)).drop off = xs := by rw [List.drop_take, Nat.add_sub_cancel_left]; exact htake
        simp only [List.append_assoc]
        rw [List.drop_append_of_le_length h2, h3, ← List.append_assoc]
        exact List.take_left
    · have holds : ∀ j u, xs[j]? = some u → w.cell? ((⟨g, off, none⟩ : Addr).add j) = some u := fun j u hu => by
        rw [add_plain']
        exact OwnQ.cell (.inr ⟨g, off, cap, cur, rfl, hbg, hg, hnc, hcm, hcs, htake⟩ : OwnQ w base e (.slice (some ⟨g, off, none⟩) xs.length cap) xs) j u hu
      have hr0 := run_append_grow (P := P) w t ty e i z ht hi hz ⟨g, off, none⟩ xs.length cap xs (by rw [hs1]; omega) holds ⟨b, off0, none⟩ m c news hnl hcells (by omega) (by omega) (by rw [hs2]; exact growslice_big (by omega) hbytes h8)
      have hgr := grown cap (Value.ownBlock (.slice (some ⟨g, off, none⟩) xs.length cap))
      exact ⟨_, _, hr0, hgr.1, hgr.2, fun k hk => .inr (by simp [Value.ownBlock] at hk; omega)⟩
end Go.Proofs.YtgohhcnmkomafaaDoor
/- Boxes of the call's own. -/
namespace Go.Proofs.YtgohhcnmkomafaaDoor
set_option linter.unusedVariables false
set_option linter.unusedSimpArgs false
open Go.RowKit
/-- A block of the call's own that holds these cells. -/
def Box (w : World) (b : Nat) (T : TypeId) (cs : List Value) : Prop := w.heap[b]? = some (.cells cs.toArray T (0, 0))
section
variable {w w' : World} {b : Nat} {T : TypeId} {cs : List Value}
theorem Box.lt (h : Box w b T cs) : b < w.heap.size := (Array.getElem?_eq_some_iff.1 h).1
theorem Box.cell (h : Box w b T cs) (k : Nat) : w.cell? ⟨b, k, none⟩ = cs[k]? := by rw [cell_of_row w b k cs.toArray T (0, 0) h]; simp
theorem Box.free (h : Box w b T cs) (k : Nat) : w.frozen? ⟨b, k, none⟩ = false := frozen_of_row w b k cs.toArray T h
theorem Box.ext (h : Box w b T cs) (hx : Ext w w') : Box w' b T cs := (hx.block b h.lt).trans h
theorem Box.set (h : Box w b T cs) (k : Nat) (u : Value) : Box (w.setCell ⟨b, k, none⟩ u) b T (cs.set k u) := by
  have := heap_setCell_same w b k cs.toArray T u h
  unfold Box; rw [this]; simp
theorem Box.kept {row : Option Nat} (h : Box w b T cs) (hg : w.grownBy w' row) (hne : row ≠ some b) : Box w' b T cs :=
  (hg.block b h.lt (fun e => hne e.symm)).trans h
theorem Box.new (w : World) (cs : List Value) (T : TypeId) : Box (w.alloc (.cells cs.toArray T)) w.heap.size T cs := heap_alloc_new w _
theorem Box.apart (h : Box w b T cs) {base : Nat} {e : TypeId} {size n : Nat} {v : Value} {xs : List Value} (ho : w.ownsRow base e size v n xs) (hne : e ≠ T) : v.ownBlock ≠ some b := by
  rcases ho.2 with ⟨rfl, _⟩ | ⟨g, cap, cur, rfl, _, hg, _⟩
  · simp [Value.ownBlock]
  · intro e1
    have e2 : g = b := Option.some.inj e1
    subst e2
    rw [h] at hg; injection hg with hg; injection hg with _ h3 _
    exact hne h3.symm
theorem own_set {base : Nat} {e : TypeId} {size n : Nat} {v : Value} {xs : List Value} (ho : w.ownsRow base e size v n xs) (hb : v.ownBlock ≠ some b) (k : Nat) (u : Value) : (w.setCell ⟨b, k, none⟩ u).ownsRow base e size v n xs := own_other ho hb
end
end Go.Proofs.YtgohhcnmkomafaaDoor
/- Both Checks of a rest; Begin. -/
namespace Go.Proofs.YtgohhcnmkomafaaDoor
set_option linter.unusedVariables false
set_option linter.unusedSimpArgs false
open Go.RowKit
/-- A node whose wait a rest must not hold. -/
def badWt (fr : Bool) (y : Bool × PNode) : Bool := y.1 && (fr || !waitK y.2.kind)
theorem restBox (w : World) (fr : Bool) (WA : Option Addr) (wn wc : Nat) (OA : Option Addr) (on oc : Nat) {W : World} (h : W = w.alloc (.cells #[Bv fr, .slice WA wn wc, .slice OA on oc] 34)) :
    W.cell? ⟨w.heap.size, 0, none⟩ = some (Bv fr) ∧ W.cell? ⟨w.heap.size, 1, none⟩ = some (.slice WA wn wc) ∧ W.cell? ⟨w.heap.size, 2, none⟩ = some (.slice OA on oc) ∧ w.heap.size < W.heap.size := by
  subst h
  refine ⟨?_, ?_, ?_, by simp⟩
  all_goals (rw [World.cell?_alloc_new]; rfl)
theorem badW_step {fr x : Bool} {V : List Bool} {p : List PNode} {k : Nat} {y : PNode} (hV : V[k]? = some x) (hp : p[k]? = some y) : ((V.drop k).zip (p.drop k)).any (badWt fr) = (badWt fr (x, y) || ((V.drop (k + 1)).zip (p.drop (k + 1))).any (badWt fr)) := by
  have h1 := (List.getElem?_eq_some_iff.1 hV).1
  have h2 := (List.getElem?_eq_some_iff.1 hp).1
  rw [List.drop_eq_getElem_cons h1, List.drop_eq_getElem_cons h2, List.zip_cons_cons, List.any_cons]
  rw [List.getElem?_eq_getElem h1] at hV; rw [List.getElem?_eq_getElem h2] at hp
  injection hV with e1; injection hp with e2
  rw [e1, e2]
set_option maxHeartbeats 4000000 in
theorem walkCheck_any (PA : Option Addr) (n pc : Nat) (p : List PNode) (fr : Bool) (WA : Option Addr) (wn wc : Nat) (OA : Option Addr) (on oc : Nat) (r : RestM) (w : World)
    (hp : SlN w PA n p) (hr : RestC w fr WA wn wc OA on oc r) (hn : n ≤ maxLen) :
    Calls Tryd.prog 24 #[.slice PA n pc, restV fr WA wn wc OA on oc] w fun e w' => e = .returned (I (checkR p r)) ∧ Ext w w' := by
  generalize hR : checkR p r = R
  obtain ⟨W, hW⟩ : ∃ W, W = w.alloc (.cells #[Bv fr, .slice WA wn wc, .slice OA on oc] 34) := ⟨_, rfl⟩
  have hxW : Ext w W := by rw [hW]; exact (Ext.refl _).alloc _
  obtain ⟨q0, q1, q2, hsz⟩ := restBox w fr WA wn wc OA on oc hW
  have hpl := hp.1; have hwl := hr.waits.len; have hol := hr.outs.len; have hfr := hr.fresh
  have hwm := hr.wl
  have hom := hr.ol
  have HP := Lib.hid (hp.keep hxW.keeps); have HWA := Lib.hid (hr.waits.keep hxW.keeps)
  have CK := Lib.hid (progCheck_any PA n pc p W (hp.keep hxW.keeps) hn)
  have HW := Lib.hid hW; clear hp hr hW
  unfold checkR at hR
  unfold maxLen at hn hwm hom
  by_cases h0 : checkP p ≠ 0
  · rw [if_pos h0] at hR
    have HR := Lib.hid hR; clear hR q0 q1 q2
    go_enter Tryd.func24, Tryd.ntmps24
    go_wp2_with fail
    rw [← HW.out]
    refine CK.out.mono ?_; rintro e w1 ⟨rfl, hx1⟩
    go_wp2
    go_ret
    exact ⟨ret_int HR.out, hxW.trans hx1⟩
  rw [if_neg h0] at hR
  have h00 : checkP p = 0 := by simpa using h0
  clear h0
  by_cases h1 : r.waits.length ≠ p.length ∨ r.outs.length ≠ 3
  · rw [if_pos h1] at hR
    have HR := Lib.hid hR; have H00 := Lib.hid h00; clear hR h00
    have hd : wn ≠ n ∨ (wn = n ∧ on ≠ 3) := by omega
    clear h1 hpl hwl hol
    rcases hd with hd | ⟨rfl, hd⟩
    all_goals
      go_enter Tryd.func24, Tryd.ntmps24
      go_wp2_with fail
      rw [← HW.out]
      refine CK.out.mono ?_; rintro e w1 ⟨rfl, hx1⟩; rw [H00.out]
      have z1 := hx1.keeps _ _ q1; have z2 := hx1.keeps _ _ q2
      have hb1 := lt_of_cell z1
      go_wp2
      go_ret
      exact ⟨ret_int HR.out, hxW.trans hx1⟩
  rw [if_neg h1] at hR
  have hwn : wn = n := by omega
  have hon : on = 3 := by omega
  subst hwn; subst hon
  have HR : Hid ((if (r.waits.zip p).any (badWt fr) then (1 : Int) else 0) = R) := by unfold Hid; rw [← hR, ← hfr]; rfl
  have H00 := Lib.hid h00; clear hR h00 h1 hpl hwl hol hfr
  go_enter Tryd.func24, Tryd.ntmps24
  go_wp2_with fail
  rw [← HW.out]
  refine CK.out.mono ?_; rintro e w1 ⟨rfl, hx1⟩; rw [H00.out]
  have z0 := hx1.keeps _ _ q0; have z1 := hx1.keeps _ _ q1; have z2 := hx1.keeps _ _ q2
  have hb1 := lt_of_cell z1
  clear q0 q1 q2
  go_wp2
  go_loop [6, 7, 28] (fun _ _ i => ∃ k : Nat, k ≤ wn ∧ i = .int .i64 k ∧ Hid (((r.waits.drop k).zip (p.drop k)).any (badWt fr) = (r.waits.zip p).any (badWt fr))) (fun _ _ i => wn - (intOf i).toNat)
  case atStart => exact ⟨0, Nat.zero_le _, rfl, rfl⟩
  case round =>
    obtain ⟨k, hk, rfl, hM⟩ := hrel
    by_cases hlt : k < wn
    · obtain ⟨wb, woff, x, rfl, hcx, hx⟩ := HWA.out.at_ hlt
      obtain ⟨pb, poff, y, rfl, hc0, hc1, -, hy⟩ := HP.out.next hlt
      have hst := badW_step (fr := fr) hx hy
      have d0 := hx1.keeps _ _ hcx; have d1 := hx1.keeps _ _ hc0
      have hdb := lt_of_cell d0; have hdb1 := lt_of_cell d1
      have HST := Lib.hid hst
      clear hst hx hy hcx hc0 hc1
      cases x
      · go_wp2
        go_round
        case rel => exact ⟨k + 1, by omega, by go_num, by unfold Hid; rw [← hM.out, HST.out]; simp [badWt]⟩
        case measure => simp [intOf]; omega
      · cases fr
        · cases hwk : waitK y.kind
          · have HWK := Lib.hid hwk; clear hwk
            go_wp2_with (go_at_call 50; with_reducible refine (wait_any _ _).mono ?_; rintro e w' ⟨rfl, rfl⟩; rw [HWK.out])
            go_ret
            exact ⟨ret_int (by rw [← HR.out, ← hM.out, HST.out]; simp [badWt, HWK.out]), hxW.trans hx1⟩
          · have HWK := Lib.hid hwk; clear hwk
            go_wp2_with (go_at_call 50; with_reducible refine (wait_any _ _).mono ?_; rintro e w' ⟨rfl, rfl⟩; rw [HWK.out])
            go_round
            case rel => exact ⟨k + 1, by omega, by go_num, by unfold Hid; rw [← hM.out, HST.out]; simp [badWt, HWK.out]⟩
            case measure => simp [intOf]; omega
        · go_wp2
          go_ret
          exact ⟨ret_int (by rw [← HR.out, ← hM.out, HST.out]; simp [badWt]), hxW.trans hx1⟩
    · have hkn : k = wn := by omega
      subst hkn
      go_wp2
      go_ret
      exact ⟨ret_int (by rw [← HR.out, ← hM.out]; rw [List.drop_eq_nil_of_le (by have := HP.out.1; omega : p.length ≤ k)]; simp), hxW.trans hx1⟩
end Go.Proofs.YtgohhcnmkomafaaDoor
/- Begin and Step of package walk. -/
namespace Go.Proofs.YtgohhcnmkomafaaDoor
set_option linter.unusedVariables false
set_option linter.unusedSimpArgs false
open Go.RowKit
theorem Sl.far {w : World} {b off n : Nat} {cs : List Value} (h : Sl w (some ⟨b, off, none⟩) n cs) {g j : Nat} (hg : g ≠ b) (v : Value) : Sl (w.setCell ⟨g, j, none⟩ v) (some ⟨b, off, none⟩) n cs :=
  ⟨h.1, fun k u hu => by
    obtain ⟨b', off', e, hc⟩ := h.2 k u hu
    injection e with e; injection e with e1 e2
    subst e1; subst e2
    exact ⟨_, _, rfl, by rw [World.cell?_setCell_far _ _ _ _ hg]; exact hc⟩⟩
theorem RestC.far {w : World} {fr : Bool} {g1 g2 wn wc on oc : Nat} {r : RestM} (h : RestC w fr (some ⟨g1, 0, none⟩) wn wc (some ⟨g2, 0, none⟩) on oc r) {g j : Nat} (h1 : g ≠ g1) (h2 : g ≠ g2) (v : Value) :
    RestC (w.setCell ⟨g, j, none⟩ v) fr (some ⟨g1, 0, none⟩) wn wc (some ⟨g2, 0, none⟩) on oc r :=
  ⟨h.fresh, h.waits.far h1 v, h.outs.far h2 v, h.wl, h.ol⟩
theorem RestC.zero (w : World) : RestC w false none 0 0 none 0 0 zeroR := ⟨rfl, Sl.nil _ _, Sl.nil _ _, ⟨Nat.le_refl _, Nat.zero_le _⟩, ⟨Nat.le_refl _, Nat.zero_le _⟩⟩
/-- What is told of a rest with an error, and of a rest, a bit and an error. -/
def NewA (w : World) (A : Option Addr) : Prop := ∀ a, A = some a → w.heap.size ≤ a.block
theorem NewA.no (w : World) : NewA w none := fun a h => by cases h
theorem NewA.at {w : World} {g o : Nat} (h : w.heap.size ≤ g) : NewA w (some ⟨g, o, none⟩) := fun a e => by injection e with e; rw [← e]; exact h
theorem Sl.far' {w : World} {A : Option Addr} {n : Nat} {cs : List Value} (h : Sl w A n cs) {g j : Nat} (hg : ∀ a, A = some a → g ≠ a.block) (v : Value) : Sl (w.setCell ⟨g, j, none⟩ v) A n cs :=
  ⟨h.1, fun k u hu => by
    obtain ⟨b', off', e, hc⟩ := h.2 k u hu
    exact ⟨_, _, e, by rw [World.cell?_setCell_far _ _ _ _ (hg _ e)]; exact hc⟩⟩
theorem RestC.far' {w : World} {fr : Bool} {WA OA : Option Addr} {wn wc on oc : Nat} {r : RestM} (h : RestC w fr WA wn wc OA on oc r) {g j : Nat} (h1 : ∀ a, WA = some a → g ≠ a.block) (h2 : ∀ a, OA = some a → g ≠ a.block) (v : Value) :
    RestC (w.setCell ⟨g, j, none⟩ v) fr WA wn wc OA on oc r :=
  ⟨h.fresh, h.waits.far' h1 v, h.outs.far' h2 v, h.wl, h.ol⟩
def RestE (w w' : World) (e : Ending) (r : RestM) (x : Int) : Prop :=
  ∃ fr WA wn wc OA on oc, e = .returned (Pr (restV fr WA wn wc OA on oc) (I x)) ∧ RestC w' fr WA wn wc OA on oc r ∧ NewA w WA ∧ NewA w OA ∧ Ext w w'
def RestB (w w' : World) (e : Ending) (r : RestM) (b : Bool) (x : Int) : Prop :=
  ∃ fr WA wn wc OA on oc, e = .returned (Pr3 (restV fr WA wn wc OA on oc) (Bv b) (I x)) ∧ RestC w' fr WA wn wc OA on oc r ∧ NewA w WA ∧ NewA w OA ∧ Ext w w'
set_option maxHeartbeats 2000000 in
theorem walkBegin_any (PA : Option Addr) (n pc : Nat) (p : List PNode) (w : World) (hp : SlN w PA n p) (hn : n ≤ maxLen) :
    Calls Tryd.prog 8 #[.slice PA n pc] w fun e w' => RestE w w' e (beginM p).1 (beginM p).2 := by
  generalize hM : beginM p = M
  unfold beginM at hM
  have hpl := hp.1
  obtain ⟨W, hW⟩ : ∃ W, W = w.alloc (.cells #[.bool false, .slice none 0 0, .slice none 0 0] 34) := ⟨_, rfl⟩
  have hxW : Ext w W := by rw [hW]; exact (Ext.refl _).alloc _
  obtain ⟨q0, q1, q2, hsz⟩ := restBox w false none 0 0 none 0 0 hW
  have f1 : ∀ j, W.frozen? ⟨w.heap.size, j, none⟩ = false := fun j => by rw [hW]; exact World.frozen?_alloc_at _ _ _ _ rfl
  have CK := Lib.hid (progCheck_any PA n pc p W (hp.keep hxW.keeps) hn)
  have HW := Lib.hid hW; clear hp hW
  by_cases h0 : checkP p ≠ 0
  · rw [if_pos h0] at hM
    have HM := Lib.hid hM; clear hM
    go_enter Tryd.func8, Tryd.ntmps8
    go_wp2_with fail
    rw [← HW.out]
    refine CK.out.mono ?_; rintro e w1 ⟨rfl, hx1⟩
    have z0 := hx1.keeps _ _ q0; have z1 := hx1.keeps _ _ q1; have z2 := hx1.keeps _ _ q2
    have ff : ∀ j, w1.frozen? ⟨w.heap.size, j, none⟩ = false := fun j => by rw [World.frozen?_of_block (a := ⟨w.heap.size, j, none⟩) (hx1.block _ hsz)]; exact f1 j
    go_wp2
    refine bodyPost_ret (v := Pr (restV false none 0 0 none 0 0) (I (checkP p))) (by simp [results, Tryd.results8, go_sem, z0, z1, z2]) rfl ⟨false, none, 0, 0, none, 0, 0, by rw [← HM.out], by rw [← HM.out]; exact RestC.zero _, NewA.no _, NewA.no _, ?_⟩
    exact (((hxW.trans hx1).setCell (Nat.le_refl _) _).setCell (Nat.le_refl _) _).setCell (Nat.le_refl _) _
  · rw [if_neg h0] at hM
    have h00 : checkP p = 0 := by simpa using h0
    have HM := Lib.hid hM; have H00 := Lib.hid h00
    have hn14 : n ≤ 14 := by have := (checkP_ok h00).1; omega
    clear hM h00 h0
    go_enter Tryd.func8, Tryd.ntmps8
    go_wp2_with fail
    rw [← HW.out]
    refine CK.out.mono ?_; rintro e w1 ⟨rfl, hx1⟩; rw [H00.out]
    have hs1 : w.heap.size < w1.heap.size := Nat.lt_of_lt_of_le hsz hx1.size
    go_wp2_with fail
    refine (fresh_any PA n pc w1 hn14).mono ?_; rintro e w2 ⟨g1, g2, rfl, hg1, hg2, hne, hW, hO, hx2⟩
    have hx := hx1.trans hx2
    have z0 := hx.keeps _ _ q0; have z1 := hx.keeps _ _ q1; have z2 := hx.keeps _ _ q2
    have ff : ∀ j, w2.frozen? ⟨w.heap.size, j, none⟩ = false := fun j => by rw [World.frozen?_of_block (a := ⟨w.heap.size, j, none⟩) (hx.block _ hsz)]; exact f1 j
    have n1 : w.heap.size ≠ g1 := by omega
    have n2 : w.heap.size ≠ g2 := by omega
    have hR : RestC w2 true (some ⟨g1, 0, none⟩) n n (some ⟨g2, 0, none⟩) 3 3 (freshM p.length) := by
      obtain ⟨A, c, e, -, -, s1⟩ := own_sl hW
      injection e with e _ _; subst e
      obtain ⟨A, c, e, -, -, s2⟩ := own_sl hO
      injection e with e _ _; subst e
      exact ⟨rfl, by rw [hpl]; exact s1, s2, ⟨Nat.le_refl _, by unfold maxLen; omega⟩, ⟨Nat.le_refl _, by unfold maxLen; omega⟩⟩
    have HR := Lib.hid hR; have HX := Lib.hid (hxW.trans hx)
    have d1 : (⟨w.heap.size, 0, none⟩ : Addr) ≠ ⟨w.heap.size, 1, none⟩ := by simp
    clear hR hx hx1 hx2 hW hO hxW q0 q1 q2
    go_wp2
    refine bodyPost_ret (v := Pr (restV true (some ⟨g1, 0, none⟩) n n (some ⟨g2, 0, none⟩) 3 3) (I 0)) (by simp [results, Tryd.results8, go_sem, z0, z1, z2]) rfl ⟨true, _, n, n, _, 3, 3, by rw [← HM.out], by rw [← HM.out]; exact ((HR.out.far n1 n2 _).far n1 n2 _).far n1 n2 _, NewA.at (by omega), NewA.at (by omega), ?_⟩
    exact ((HX.out.setCell (Nat.le_refl _) _).setCell (Nat.le_refl _) _).setCell (Nat.le_refl _) _
end Go.Proofs.YtgohhcnmkomafaaDoor
