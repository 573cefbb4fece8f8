/- strings.Lines: its iterator, and the law on a range over an iterator that keeps its state in a cell. -/
import Derived.Test.YtgohhcnmkomafaaDoorDt05
import Derived.Test.YtgohhcnmkomafaaDoorDt07
import Derived.RangeFuncNested
import Derived.RangeFuncBound
import Derived.RangeFuncCalls
import Derived.RangeFuncLeaves
import Derived.Shelf.Abstract
import Derived.Shelf.RegionOpen
import Derived.WalkKit
import Derived.OwnWalkIn
import Derived.TacticsInMore
import Derived.LoopNIn
import Derived.LoopIn
import Derived.Lib.AppendStr
import Derived.Test.YtgohhcnmkomafaaDoorDt02
import Derived.Maps.AppendAt
import Derived.Deep.AppendLies
import Derived.Recover
namespace Go.Proofs.YtgohhcnmkomafaaDoor
set_option linter.unusedVariables false
set_option linter.unusedSimpArgs false
set_option linter.unusedVariables false
set_option linter.unusedSimpArgs false
set_option maxRecDepth 100000
open Go.RowKit Go.Shelf
attribute [local go_sem] Oper.semAt_some
/-- How many bytes the string in a cell has. -/
def cellLen (w : World) (SB : Nat) : Nat := match w.cell? ⟨SB, 0, none⟩ with | some (.string s) => s.size | _ => 0
theorem cellLen_eq {w : World} {SB : Nat} {s : List UInt8} (h : w.cell? ⟨SB, 0, none⟩ = some (S s)) : cellLen w SB = s.length := by unfold cellLen; rw [h]; rfl
/-- A round keeps the cell of the iterator's own. -/
def KeptC (SB : Nat) (A B : World) : Prop := ∀ v, A.cell? ⟨SB, 0, none⟩ = some v → B.cell? ⟨SB, 0, none⟩ = some v ∧ B.frozen? ⟨SB, 0, none⟩ = A.frozen? ⟨SB, 0, none⟩
theorem KeptC.trans {SB : Nat} {A B C : World} (h : KeptC SB A B) (k : KeptC SB B C) : KeptC SB A C := fun v hv => by
  obtain ⟨h1, h2⟩ := h v hv
  obtain ⟨k1, k2⟩ := k v h1
  exact ⟨k1, k2.trans h2⟩
theorem KeptC.putObj {SB : Nat} (W : World) (l : Nat) (o o' : Obj) (h : W.heap[l]? = some o) (ho : o.isCells = false) : KeptC SB W (W.putObj l o') := fun v hv =>
  ⟨cell_kept hv (grownBy_putObj' W l o') (fun r e => by cases e; exact ⟨o, h, ho⟩), frozen_kept hv (grownBy_putObj' W l o') (fun r e => by cases e; exact ⟨o, h, ho⟩)⟩
/-- A text that is empty or ends with a feed: its first line. -/
theorem first_line {s : List UInt8} (h : s.getLast? = some 10) : ∃ a r, s = a ++ 10 :: r ∧ (10 : UInt8) ∉ a ∧ (r = [] ∨ r.getLast? = some 10) ∧ Lib.indexByte s 10 = a.length := by
  have hm : (10 : UInt8) ∈ s := List.mem_of_getLast? h
  have hne : Lib.indexByte s 10 ≠ -1 := fun e => by
    obtain ⟨k, hk⟩ := List.mem_iff_getElem?.1 hm
    exact Lib.indexByte_none e k hk
  have hge := Lib.indexByte_ge s 10
  obtain ⟨i, hi⟩ : ∃ i : Nat, Lib.indexByte s 10 = i := ⟨(Lib.indexByte s 10).toNat, by omega⟩
  obtain ⟨h1, h2⟩ := Lib.indexByte_some hi
  obtain ⟨hlt, he⟩ := List.getElem?_eq_some_iff.1 h1
  have hd := List.drop_eq_getElem_cons hlt
  rw [he] at hd
  have hs : s = s.take i ++ 10 :: s.drop (i + 1) := by rw [← hd, List.take_append_drop]
  refine ⟨s.take i, s.drop (i + 1), hs, fun hin => ?_, ?_, by rw [hi, List.length_take]; omega⟩
  · obtain ⟨k, hk⟩ := List.mem_iff_getElem?.1 hin
    have hkl := (List.getElem?_eq_some_iff.1 hk).1
    rw [List.length_take] at hkl
    rw [List.getElem?_take, if_pos (by omega)] at hk
    exact h2 k (by omega) hk
  · by_cases hr : s.drop (i + 1) = []
    · exact .inl hr
    · right
      rw [hs, List.getLast?_append] at h
      rw [List.getLast?_cons_of_ne_nil hr] at h
      cases hg : (s.drop (i + 1)).getLast? with
      | none => rw [List.getLast?_eq_none_iff] at hg; exact absurd hg hr
      | some y => rw [hg] at h; simpa using h
set_option maxHeartbeats 4000000 in
theorem lines_it (n l SB : Nat) (hn : 1 ≤ n) (J : List (List UInt8) → World → Prop) (txt : List UInt8) (hmx : txt.length ≤ 4096) (hend : txt = [] ∨ txt.getLast? = some 10)
    (hJs : ∀ s W (v : List UInt8) u, J s W → W.cell? ⟨SB, 0, none⟩ = some u → J s (W.setCell ⟨SB, 0, none⟩ (S v))) (hJd : ∀ s W, J s W → J s W.drew)
    (hY : ∀ pre x W, J pre W → ((10 : UInt8) ∉ x ∧ x.length ≤ 4096) → pre.length ≤ 4096 → YieldAt Fence.wide (n - 1) Tryd.prog l #[S (x ++ [10])] W fun e W' =>
      e = .returned (.bool true) ∧ J (pre ++ [x]) W' ∧ KeptC SB W W')
    (W : World) (hc : W.cell? ⟨SB, 0, none⟩ = some (S txt)) (hf : W.frozen? ⟨SB, 0, none⟩ = false) (h0 : J [] W) :
    CallsIn Fence.wide n Tryd.prog 41 #[.func (.yield l) #[] #[], .pointer (some ⟨SB, 0, none⟩)] W fun e W' => (∃ v, e = .returned v) ∧ J (linesFrom [] txt) W' := by
  refine callsIn_of_wp Tryd.func41 rfl trivial ?_ rfl
  simp only [Tryd.ntmps41, List.size_toArray, List.length_cons, List.length_nil, Nat.reduceAdd, Nat.reduceSub, Array.replicate_succ, Array.replicate_zero, List.push_toArray, List.append_toArray, List.nil_append, List.cons_append]
  gi_wp2
  gi_loopw [3, 4] (fun _ _ wr => ∃ (pre : List (List UInt8)) (rest : List UInt8), linesFrom [] txt = pre ++ linesFrom [] rest ∧ (rest = [] ∨ rest.getLast? = some 10) ∧ rest.length ≤ txt.length ∧ J pre wr ∧ wr.cell? ⟨SB, 0, none⟩ = some (S rest) ∧ wr.frozen? ⟨SB, 0, none⟩ = false)
    (fun _ _ wr => cellLen wr SB)
  case atStart => exact ⟨[], txt, rfl, hend, Nat.le_refl _, h0, hc, hf⟩
  case round =>
    obtain ⟨pre, rest, hl, he, hlen, hJ, hcr, hfr⟩ := hrel
    have hsz : ((⟨rest.toArray⟩ : ByteArray).size : Int) = rest.length := rfl
    rcases he with rfl | he
    · gi_wp2
      go_end0
      exact ⟨⟨_, rfl⟩, by rw [hl]; simpa [linesFrom] using hJ⟩
    · obtain ⟨a, r, rfl, ha, hr, hi⟩ := first_line he
      have hHI := Lib.hid hi; have HHL := Lib.hid hl; have HHR := Lib.hid hr
      have hpos : (decide ((((⟨(a ++ 10 :: r).toArray⟩ : ByteArray).size : Nat) : Int) > 0)) = true := by rw [hsz]; simp; omega
      have hidx : (decide ((a.length : Int) ≥ 0)) = true := by simp
      have hap : ((a ++ 10 :: r).length : Nat) = a.length + (r.length + 1) := by simp
      clear he hi hl hr
      gi_wp2_with fail
      refine ⟨trivial, (callsIn_wide.2 (indexByte_nl (a ++ 10 :: r) wr)).mono ?_⟩; rintro e w' ⟨rfl, rfl⟩; rw [hHI.out]
      gi_wp2_with fail
      have hmx2 : Tryd.prog.follows .mixedOrders = true := by kernel_rfl
      have hal : a.length ≤ 4095 := by omega
      have e1 : (⟨(a ++ 10 :: r).toArray⟩ : ByteArray).extract 0 (a.length + 1) = ⟨(a ++ [10]).toArray⟩ := by
        rw [ba_extract, show a ++ 10 :: r = (a ++ [10]) ++ r by simp, show a.length + 1 = (a ++ [10]).length by simp, List.take_left, List.drop_zero]
      have e2 : (⟨(a ++ 10 :: r).toArray⟩ : ByteArray).extract (a.length + 1) (a.length + (r.length + 1)) = ⟨r.toArray⟩ := by
        rw [ba_extract, show a.length + (r.length + 1) = (a ++ 10 :: r).length by simp, List.take_length, show a ++ 10 :: r = (a ++ [10]) ++ r by simp, show a.length + 1 = (a ++ [10]).length by simp, List.drop_left]
      gi_region_o
      clear e1 e2 hsz hpos hidx
      have hcN : ((wr.setCell ⟨SB, 0, none⟩ (S r)).drew).cell? ⟨SB, 0, none⟩ = some (S r) := World.cell?_setCell_same _ _ _ hcr
      have hfN : ((wr.setCell ⟨SB, 0, none⟩ (S r)).drew).frozen? ⟨SB, 0, none⟩ = false := (World.frozen?_setCell _ _ _ _).trans hfr
      obtain ⟨fn, tmps, assign, body, hy, hR⟩ := hY pre a ((wr.setCell ⟨SB, 0, none⟩ (S r)).drew) (hJd _ _ (hJs _ _ _ _ hJ hcr)) ⟨ha, by omega⟩ (by have h1 := linesFrom_len txt []; rw [HHL.out, List.length_append] at h1; have h2 := List.count_le_length (a := (10 : UInt8)) (l := txt); omega)
      gi_wp2
      refine hR.mono ?_
      rintro e W3 ⟨rfl, hJ3, hk3⟩
      obtain ⟨hc3, hf3⟩ := hk3 _ hcN
      rw [hfN] at hf3
      gi_wp2
      go_roundw
      case rel => exact ⟨pre ++ [a], r, by rw [HHL.out, linesFrom_piece a [] r ha, List.append_assoc]; rfl, HHR.out, by omega, hJ3, hc3, hf3⟩
      case measure => rw [cellLen_eq hc3, cellLen_eq hcr]; simp; omega
/-- A range over an iterator that keeps its state in a cell of its own: the body never leaves. -/
theorem wpIn_rangeFunc_cell {n : Nat} {P : Program} {α : Type} {g : Operand} {ps : Array Tmp} {assign body : Code} {Q : Exit → Act → World → Prop} {a : Act} {w : World}
    (h1 : 1 ≤ n) {gf : Nat} {lb : Array Value} (hg : a.eval g = .func (.func gf) #[] lb) (eg : ∀ args w, (callFunc gf args).run P w = .ok (.enter gf args) w)
    {encs : α → Array Value} (hps : ∀ x, (encs x).size = ps.size) (SB : Nat) (hSB : SB < w.heap.size) (c0 : Value) (hc0 : w.cell? ⟨SB, 0, none⟩ = some c0) (hf0 : w.frozen? ⟨SB, 0, none⟩ = false) (good : α → Prop) (xs : List α)
    (hseq : ∀ (l : Nat) (J : List α → World → Prop) (W : World), (∀ s W (v : List UInt8) u, J s W → W.cell? ⟨SB, 0, none⟩ = some u → J s (W.setCell ⟨SB, 0, none⟩ (S v))) → (∀ s W, J s W → J s W.drew) →
      (∀ pre x W1, J pre W1 → good x → pre.length ≤ 4096 → YieldAt Fence.wide (n - 1 - 1) P l (encs x) W1 fun e W' => e = .returned (.bool true) ∧ J (pre ++ [x]) W' ∧ KeptC SB W1 W') →
      W.cell? ⟨SB, 0, none⟩ = some c0 → W.frozen? ⟨SB, 0, none⟩ = false → J [] W →
      CallsIn Fence.wide (n - 1) P gf (#[.func (.yield l) #[] #[]] ++ lb) W fun e W' => (∃ v, e = .returned v) ∧ J xs W')
    (I : List α → World → Prop) (hI : OwnFrom w.heap.size I) (hIs : ∀ s W (v : List UInt8) u, I s W → W.cell? ⟨SB, 0, none⟩ = some u → I s (W.setCell ⟨SB, 0, none⟩ (S v))) (hId : ∀ s W, I s W → I s W.drew) (h0 : I [] w) (a₁ : α → Act)
    (hassign : ∀ (l : Nat) (x : α) (W : World) (K : Act → World → Prop), K (a₁ x) W →
      assign.wpIn (Fence.wide.inRound l) (n - 1 - 1) P (Exit.then K (fun _ _ _ => False)) { tmps := (ps.zip (encs x)).foldl (fun t (p, v) => t.setIfInBounds p v) a.tmps, defers := [] } W)
    (hbody : ∀ (l : Nat) (pre : List α) (x : α) (W : World), I pre W → good x → pre.length ≤ 4096 → body.wpIn (Fence.wide.inRound l) (n - 1 - 1) P (ownPostK (KeptC SB) I (fun _ _ _ => False) (pre ++ [x]) W) (a₁ x) W)
    (hdone : ∀ (D : Nat) (W : World), w.heap.size ≤ D → I xs W → W.heap[D]? = some (.deferred (some [])) → Q .normal { a with defers := { target := .collected D, args := #[] } :: a.defers } W) :
    (Code.rangeFunc g ps assign body).wpIn Fence.wide n P Q a w := by
  refine wpIn_rangeFunc ?_
  intro fn hfn
  obtain ⟨rec, hrec⟩ : ∃ rec : LoopState → Option Code → Loop, rec = fun st pe => { state := st, pending := pe, fn, tmps := a.tmps, params := ps, assign, body, defers := w.heap.size } := ⟨_, rfl⟩
  obtain ⟨W1, hW1⟩ : ∃ W1, (w.alloc (.deferred (some []))).alloc (.loop (rec .ready none)) = W1 := ⟨_, rfl⟩
  have hL1 : W1.heap[w.heap.size + 1]? = some (.loop (rec .ready none)) := by
    rw [← hW1]; have := World.alloc_heap_new (w.alloc (.deferred (some []))) (.loop (rec .ready none)); rwa [World.size_alloc] at this
  have hK1 : W1.heap[w.heap.size]? = some (.deferred (some [])) := by
    rw [← hW1]; exact (Below.heap_alloc _ _ _ (by simp)).trans (World.alloc_heap_new w _)
  have hI1 : I [] W1 := by rw [← hW1]; exact hI.alloc _ (hI.alloc _ h0)
  have hc1 : W1.cell? ⟨SB, 0, none⟩ = some c0 := by rw [← hW1]; exact (((Ext.refl w).alloc _).alloc _).keeps _ _ hc0
  have hf1 : W1.frozen? ⟨SB, 0, none⟩ = false := by rw [← hW1]; exact (World.frozen?_of_block (a := ⟨SB, 0, none⟩) ((((Ext.refl w).alloc _).alloc _).block SB hSB)).trans hf0
  refine ⟨w.heap.size + 1, [{ target := .collected w.heap.size, args := #[] }], W1, { target := .fn (.func gf) lb, args := #[.func (.yield (w.heap.size + 1)) #[] #[]] }, W1, gf,
    #[.func (.yield (w.heap.size + 1)) #[] #[]] ++ lb, W1, ?_, ?_, ?_, ?_, fun _ => h1, ?_⟩
  · rw [← hW1, hrec]; exact run_enterLoop_outer _ _ _ _ _
  · simp only [resolve, hg]
    simp [go_sem]
  · intro f' hf'; trivial
  · simp [invoke, go_sem, eg]
  · refine (hseq (w.heap.size + 1)
      (fun pre W => I pre W ∧ W.heap[w.heap.size + 1]? = some (.loop (rec .ready none)) ∧ W.heap[w.heap.size]? = some (.deferred (some [])))
      W1 (fun s W v u hs hu => ⟨hIs s W v u hs.1 hu, (Below.heap_setCell _ _ _ _ (by simp; omega)).trans hs.2.1, (Below.heap_setCell _ _ _ _ (by simp; omega)).trans hs.2.2⟩)
      (fun s W hs => ⟨hId s W hs.1, hs.2.1, hs.2.2⟩) ?_ hc1 hf1 ⟨hI1, hL1, hK1⟩).mono ?_
    · rintro pre x W ⟨hi, hl, hk⟩ hgood hpl
      have hlt : w.heap.size + 1 < W.heap.size := (Array.getElem?_eq_some_iff.1 hl).1
      have hy := run_yield (P := P) (args := encs x) hl (by rw [hrec]; exact hps x)
      rw [hrec] at hy
      refine ⟨fn, _, assign, body, hy, roundIn_of_wpIn hfn (hassign _ x W _ ⟨_, run_beginRound hl (by rw [hrec]), ?_⟩)⟩
      have hl2 : (W.putObj (w.heap.size + 1) (.loop { rec .ready none with state := .busy })).heap[w.heap.size + 1]? = some (.loop { rec .ready none with state := .busy }) := World.putObj_heap_same hlt
      have hk2 : (W.putObj (w.heap.size + 1) (.loop { rec .ready none with state := .busy })).heap[w.heap.size]? = some (.deferred (some [])) := (World.putObj_heap_other (by omega)).trans hk
      have hw2 : KeptC SB W (W.putObj (w.heap.size + 1) (.loop { rec .ready none with state := .busy })) := KeptC.putObj _ _ _ _ hl rfl
      refine wpIn_mono (hbody _ pre x _ (hI.putObj _ hi (by omega) hl rfl) hgood hpl) ?_
      rintro e a3 W3 hp
      cases e with
      | normal =>
        obtain ⟨hk3, hkp3, hi3⟩ := hp
        have hl3 := hk3.same _ _ hl2 rfl
        have hr := run_endRound (P := P) none hl3
        rw [hrec] at hr hl3
        exact ⟨_, _, hr, rfl, ⟨hI.putObj _ hi3 (by omega) hl3 rfl, by rw [hrec]; exact World.putObj_heap_same (Array.getElem?_eq_some_iff.1 hl3).1, (World.putObj_heap_other (by omega)).trans (hk3.same _ _ hk2 rfl)⟩, (hw2.trans hkp3).trans (KeptC.putObj _ _ _ _ hl3 rfl)⟩
      | ret => exact hp.2.elim
      | exit id => exact hp.2.elim
      | goto t => exact hp.2.elim
      | panic ch => exact hp.elim
      | outgrown => exact hp.elim
    · rintro e W2 ⟨⟨v, rfl⟩, hi, hl, hk⟩
      exact ⟨none, _, by have := run_endLoop (P := P) hl (by rw [hrec]; simp); rw [hrec] at this; exact this, hdone _ _ (Nat.le_refl _) (hI.putObj _ hi (by omega) hl rfl) ((World.putObj_heap_other (by omega)).trans hk)⟩
end Go.Proofs.YtgohhcnmkomafaaDoor
/- WriteString on a builder of the call's own. -/
namespace Go.Proofs.YtgohhcnmkomafaaDoor
set_option linter.unusedVariables false
set_option linter.unusedSimpArgs false
set_option maxRecDepth 100000
open Go.RowKit
abbrev BT : TypeId := 57
abbrev BE : TypeId := 5
theorem copy_fresh (b : Nat) (w : World) (h0 : w.cell? ⟨b, 0, none⟩ = some (.pointer none)) (hsh : w.shape? b = some (BT, 2)) (hfz : w.frozen? ⟨b, 0, none⟩ = false) :
    Calls Tryd.prog 43 #[.pointer (some ⟨b, 0, none⟩)] w fun e w' => e = .returned (.tuple #[]) ∧ w' = w.setCell ⟨b, 0, none⟩ (.pointer (some ⟨b, 0, none⟩)) := by
  have X := Tryd.Builder_Extra_169
  obtain ⟨j, hj, hjs⟩ := Option.map_eq_some_iff.1 X.sizeBuilder
  have mixed : Tryd.prog.follows .mixedOrders = true := by kernel_rfl
  go_enter Tryd.func43, Tryd.ntmps43
  go_wp2
  rw [Lib.run_to_unsafe w ⟨b, 0, none⟩ Tryd.underlying54 Tryd.underlying102 hj (by rw [hjs]; decide) hsh (Nat.zero_lt_succ 1)]
  simp only [Result.andThen]
  rw [Oper.upon_value]
  go_wp2
  rw [run_callFunc_extern Tryd.func63 (by kernel_rfl) (by kernel_rfl) (by kernel_rfl) (e := Extern.AbiNoEscape.same) (by kernel_rfl)]
  rw [Lib.run_noEscape]
  simp only [Result.andThen]
  rw [Oper.upon_value]
  go_wp2
  rw [Lib.run_from_unsafe w ⟨b, 0, none⟩ Tryd.underlying102 Tryd.underlying54 hj hsh X.liesBuilder]
  simp only [Result.andThen]
  rw [Oper.upon_value]
  go_wp2
  go_end0
  exact ⟨rfl, rfl⟩
theorem copy_used (b : Nat) (w : World) (h0 : w.cell? ⟨b, 0, none⟩ = some (.pointer (some ⟨b, 0, none⟩))) :
    Calls Tryd.prog 43 #[.pointer (some ⟨b, 0, none⟩)] w fun e w' => e = .returned (.tuple #[]) ∧ w' = w := by
  have X := Tryd.Builder_Extra_169
  obtain ⟨j, hj, _⟩ := Option.map_eq_some_iff.1 X.sizeBuilder
  have mixed : Tryd.prog.follows .mixedOrders = true := by kernel_rfl
  go_enter Tryd.func43, Tryd.ntmps43
  go_wp2
  rw [Lib.run_neq_ptr_same w _ Tryd.underlying54 hj]
  go_wp2
  go_end0
  exact ⟨rfl, rfl⟩
/-- What a write into the builder b keeps: every block but its own and its bytes'. -/
def KeptB (b : Nat) (w w' : World) : Prop := ∀ k o, w.heap[k]? = some o → k ≠ b → (∀ v, w.cell? ⟨b, 1, none⟩ = some v → v.ownBlock ≠ some k) → w'.heap[k]? = some o
theorem copy_any (B b : Nat) (bs : List Value) (w : World) (h : Lib.IsBuilder BT BE B b bs w) :
    Calls Tryd.prog 43 #[.pointer (some ⟨b, 0, none⟩)] w fun e w' => e = .returned (.tuple #[]) ∧ Lib.BuilderAt BT BE B b (.pointer (some ⟨b, 0, none⟩)) bs w' ∧ Below B w w' ∧ (∀ k, k ≠ b → w'.heap[k]? = w.heap[k]?) ∧ w'.cell? ⟨b, 1, none⟩ = w.cell? ⟨b, 1, none⟩ := by
  rcases h with h | h
  · refine (copy_fresh b w h.cell0 h.shape h.frozen0).mono ?_
    rintro e w' ⟨rfl, rfl⟩
    exact ⟨rfl, h.used _, (Below.refl B w).setCell (p := ⟨b, 0, none⟩) h.1 _, fun k hk => Below.heap_setCell _ _ _ _ (fun e => hk (by simpa using e)), World.cell?_setCell_other _ _ _ _ (by simp)⟩
  · refine (copy_used b w h.cell0).mono ?_
    rintro e w' ⟨rfl, rfl⟩
    exact ⟨rfl, h, Below.refl B _, fun _ _ => rfl, rfl⟩
set_option maxHeartbeats 2000000 in
theorem wstr_any (B b : Nat) (bs : List Value) (s : List UInt8) (w : World) (h : Lib.IsBuilder BT BE B b bs w) (hlen : bs.length + s.length ≤ 140737488355328) (hBw : B ≤ w.heap.size) :
    Calls Tryd.prog 20 #[.pointer (some ⟨b, 0, none⟩), S s] w fun e w' => e = .returned (.tuple #[.int .i64 s.length, .nilIface]) ∧ Lib.BuilderAt BT BE B b (.pointer (some ⟨b, 0, none⟩)) (bs ++ Lib.byteCells s) w' ∧ Below B w w' ∧ KeptB b w w' := by
  have X := Tryd.Builder_Extra_169
  obtain ⟨i0, hi, hz0, hz1, hz2⟩ := info_parts X.infoByte
  have mixed : Tryd.prog.follows .mixedOrders = true := by kernel_rfl
  have hss : (⟨s.toArray⟩ : ByteArray).size = s.length := rfl
  have hsc : Lib.strCells ⟨s.toArray⟩ = Lib.byteCells s := rfl
  go_enter Tryd.func20, Tryd.ntmps20
  go_wp2_with fail
  refine (copy_any B b bs w h).mono ?_
  rintro e w1 ⟨rfl, h1, hb1, hk1, hc1⟩
  obtain ⟨hB, v, hbk, hown, hne⟩ := h1
  have c0 : w1.cell? ⟨b, 0, none⟩ = some (.pointer (some ⟨b, 0, none⟩)) := by rw [Lib.cell_of_heap hbk]; rfl
  have c1 : w1.cell? ⟨b, 1, none⟩ = some v := by rw [Lib.cell_of_heap hbk]; rfl
  have HK1 := Lib.hid hk1; have HC1 := Lib.hid hc1; have HB1 := Lib.hid hb1; have HSC := Lib.hid hsc
  clear hk1 hc1 hsc
  go_wp2_with (at_builtin; refine Lib.wpList_append_own_string _ rfl _ _ 55 9 rfl B BE i0 Tryd.underlying55 Tryd.underlying9 hi hz0 hz1 hz2 _ _ _ rfl hown ⟨s.toArray⟩ rfl ?c3 ?c4 ?c5 ?_)
  case c3 => unfold maxLen; omega
  case c4 => omega
  case c5 => have := HB1.out.size; omega
  intro v' w2 hown' hgrow _
  have hlt : b < w1.heap.size := by
    rcases Nat.lt_or_ge b w1.heap.size with h' | h'
    · exact h'
    · simp [Array.getElem?_eq_none h'] at hbk
  have hb2 : w2.heap[b]? = some (.cells #[.pointer (some ⟨b, 0, none⟩), v] BT (0, 0)) := by
    rw [hgrow.block b hlt (fun e => hne e.symm)]
    exact hbk
  have d0 : w2.cell? ⟨b, 0, none⟩ = some (.pointer (some ⟨b, 0, none⟩)) := by rw [Lib.cell_of_heap hb2]; rfl
  have d1 : w2.cell? ⟨b, 1, none⟩ = some v := by rw [Lib.cell_of_heap hb2]; rfl
  have f1 : w2.frozen? ⟨b, 1, none⟩ = false := Lib.frozen_of_heap hb2 1
  obtain ⟨ao, n', cap, rfl⟩ : ∃ ao n' cap, v' = .slice ao n' cap := by
    rcases hown'.2 with ⟨hv, _⟩ | ⟨g, cap, cur, hv, _⟩
    · exact ⟨_, _, _, hv⟩
    · exact ⟨_, _, _, hv⟩
  go_wp2
  go_ret2
  refine ⟨rfl, ?_, ?_, ?_⟩
  · rw [← HSC.out]
    exact Lib.BuilderAt.put (T := BT) (e := BE) hB hb2 (bs' := bs ++ Lib.strCells ⟨s.toArray⟩) (by rw [List.length_append, Lib.strCells_length]; exact hown') X.neB5
  · exact (HB1.out.grown hgrow (by have := HB1.out.size; omega) (fun k hk => (hown.lt k hk).1)).setCell (p := ⟨b, 1, none⟩) hB _
  · intro k o hk hkb hkv
    have hlk : k < w1.heap.size := Nat.lt_of_lt_of_le (Array.getElem?_eq_some_iff.1 hk).1 HB1.out.size
    rw [Below.heap_setCell _ _ _ _ (fun e => hkb (by simpa using e)), hgrow.block k hlk (fun e => hkv v (by rw [← HC1.out]; exact c1) e.symm), HK1.out k hkb]
    exact hk
end Go.Proofs.YtgohhcnmkomafaaDoor
/- text's reader: may, must, put, sign. -/
namespace Go.Proofs.YtgohhcnmkomafaaDoor
set_option linter.unusedVariables false
set_option linter.unusedSimpArgs false
set_option maxRecDepth 100000
open Go.RowKit
/-- What is thrown. -/
abbrev broken : PanicEntry := { v := .iface 86 (.agg #[]), recovered := false }
abbrev flatN (ps : List PNode) : List Value := ps.flatMap fun x => [PK x, PS x]
theorem flatN_snoc (ps : List PNode) (x : PNode) : flatN (ps ++ [x]) = flatN ps ++ [PK x, PS x] := by simp [flatN]
/-- A reader in block g: what is left of the text, and the nodes that came. -/
structure RS (W0 : World) (g : Nat) (w : World) (s : List UInt8) (ps : List PNode) : Prop where
  ext : Ext W0 w
  low : W0.heap.size ≤ g
  c0 : w.cell? ⟨g, 0, none⟩ = some (S s)
  f0 : w.frozen? ⟨g, 0, none⟩ = false
  c1 : ∃ v, w.cell? ⟨g, 1, none⟩ = some v ∧ w.ownsRow (g + 1) 70 2 v ps.length (flatN ps)
  f1 : w.frozen? ⟨g, 1, none⟩ = false
  short : s.length ≤ 5000
section
variable {W0 w : World} {g : Nat} {s : List UInt8} {ps : List PNode}
theorem rs_set (w : World) (g j : Nat) (v : Value) : w.grownBy (w.setCell ⟨g, j, none⟩ v) (some g) :=
  ⟨rfl, rfl, rfl, by simp, fun i _ hi => heap_setCell_other w ⟨g, j, none⟩ i v (fun e => hi (by simp [e]))⟩
theorem RS.lt (h : RS W0 g w s ps) : g < w.heap.size := lt_of_cell h.c0
/-- Another text is left. -/
theorem RS.rest (h : RS W0 g w s ps) (r : List UInt8) (hr : r.length ≤ 5000) : RS W0 g (w.setCell ⟨g, 0, none⟩ (S r)) r ps := by
  obtain ⟨v, hv, ho⟩ := h.c1
  refine ⟨h.ext.setCell h.low _, h.low, World.cell?_setCell_same _ _ _ h.c0, ?_, ⟨v, ?_, ?_⟩, ?_, hr⟩
  · rw [World.frozen?_setCell]; exact h.f0
  · rw [World.cell?_setCell_other _ _ _ _ (by simp)]; exact hv
  · exact ho.kept (rs_set w g 0 (S r)) (by
      cases hb : v.ownBlock with
      | none => exact .inl rfl
      | some b => exact .inr (fun e => by have := (ho.lt b hb).1; injection e with e; omega))
  · rw [World.frozen?_setCell]; exact h.f1
theorem RS.alloc (h : RS W0 g w s ps) (o : Obj) : RS W0 g (w.alloc o) s ps := by
  obtain ⟨v, hv, ho⟩ := h.c1
  have hlt := h.lt
  refine ⟨h.ext.alloc _, h.low, Keeps.alloc _ _ _ _ h.c0, ?_, ⟨v, Keeps.alloc _ _ _ _ hv, ho.alloc _⟩, ?_, h.short⟩
  · exact (Below.frozen (p := ⟨g, 0, none⟩) ((Ext.refl w).alloc o) hlt).trans h.f0
  · exact (Below.frozen (p := ⟨g, 1, none⟩) ((Ext.refl w).alloc o) hlt).trans h.f1
/-- A node was put. -/
theorem RS.put (h : RS W0 g w s ps) {v v' : Value} {w1 : World} {o : Obj} {x : PNode} (c1 : w.cell? ⟨g, 1, none⟩ = some v) (ho : w.ownsRow (g + 1) 70 2 v ps.length (flatN ps)) (hg : (w.alloc o).grownBy w1 v.ownBlock)
    (hown : w1.ownsRow (g + 1) 70 2 v' (ps.length + 1) (flatN ps ++ [PK x, PS x])) : RS W0 g (w1.setCell ⟨g, 1, none⟩ v') s (ps ++ [x]) := by
  have hlt := h.lt
  have ha := h.alloc o
  have hne : ∀ j, v.ownBlock = some j → g + 1 ≤ j := fun j hj => (ho.lt j hj).1
  have hne' : some g ≠ v.ownBlock := fun e => by have := hne g e.symm; omega
  have hv1 := hg.cell (a := ⟨g, 1, none⟩) (Keeps.alloc w o _ _ c1) hne'
  refine ⟨(Below.grown ha.ext hg (Nat.le_trans h.ext.size (by simp)) (fun k hk => Nat.le_trans h.low (Nat.le_of_succ_le (hne k hk)))).setCell h.low _, h.low, ?_, ?_, ⟨v', ?_, ?_⟩, ?_, h.short⟩
  · rw [World.cell?_setCell_other _ _ _ _ (by simp)]; exact hg.cell ha.c0 hne'
  · rw [World.frozen?_setCell, hg.frozen_far ⟨g, 0, none⟩ (by simp; omega) hne']; exact ha.f0
  · exact World.cell?_setCell_same _ _ _ hv1
  · rw [flatN_snoc, List.length_append]
    exact hown.kept (rs_set w1 g 1 v') (by
      cases hb : v'.ownBlock with
      | none => exact .inl rfl
      | some b => exact .inr (fun e => by have := (hown.lt b hb).1; injection e with e; omega))
  · rw [World.frozen?_setCell, hg.frozen_far ⟨g, 1, none⟩ (by simp; omega) hne']; exact ha.f1
end
theorem rest_len (w s : List UInt8) : (restP w s).length ≤ s.length := by
  cases h : isP w s
  · rw [restP_no h]; exact Nat.le_refl _
  · rw [restP_yes h]; simp
theorem may_any {W0 : World} {g : Nat} {w : World} {s : List UInt8} {ps : List PNode} (h : RS W0 g w s ps) (word : List UInt8) (hw : word.length ≤ 1000) :
    Calls Tryd.prog 56 #[.pointer (some ⟨g, 0, none⟩), S word] w fun e w' => e = .returned (.bool (isP word s)) ∧ w' = w.setCell ⟨g, 0, none⟩ (S (restP word s)) := by
  have c0 := h.c0; have f0 := h.f0
  have hs := h.short
  have H := Lib.hid h; clear h
  go_enter Tryd.func56, Tryd.ntmps56
  go_wp2_with fail
  refine (cutPrefix_any s word (by omega) (by omega) _).mono ?_; rintro e w1 ⟨rfl, rfl⟩
  go_wp2
  go_ret
  exact ⟨rfl, rfl⟩
theorem must_yes {W0 : World} {g : Nat} {w : World} {s : List UInt8} {ps : List PNode} (h : RS W0 g w s ps) (word : List UInt8) (hw : word.length ≤ 1000) (hy : isP word s = true) :
    Calls Tryd.prog 60 #[.pointer (some ⟨g, 0, none⟩), S word] w fun e w' => e = .returned (.tuple #[]) ∧ w' = w.setCell ⟨g, 0, none⟩ (S (restP word s)) := by
  have H := Lib.hid h; have HY := Lib.hid hy; clear h hy
  go_enter Tryd.func60, Tryd.ntmps60
  go_wp2_with fail
  refine (may_any H.out word hw).mono ?_; rintro e w1 ⟨rfl, rfl⟩; rw [HY.out]
  go_wp2
  go_end0
  exact ⟨rfl, rfl⟩
theorem must_no {W0 : World} {g : Nat} {w : World} {s : List UInt8} {ps : List PNode} (h : RS W0 g w s ps) (word : List UInt8) (hw : word.length ≤ 1000) (hy : isP word s = false) :
    Calls Tryd.prog 60 #[.pointer (some ⟨g, 0, none⟩), S word] w fun e w' => e = .panicked [broken] ∧ Ext W0 w' := by
  have H := Lib.hid h; have HY := Lib.hid hy; clear h hy
  go_enter Tryd.func60, Tryd.ntmps60
  go_wp2_with fail
  refine (may_any H.out word hw).mono ?_; rintro e w1 ⟨rfl, rfl⟩; rw [HY.out]
  go_wp2
  exact ⟨rfl, rfl, (H.out.rest _ (by have := rest_len word s; have := H.out.short; omega)).ext⟩
theorem tab_node : (Tryd.prog.info? 70).map (fun i => (i.zero, i.size, i.bytes)) = some (some (.agg #[.int .i64 0, .int .i64 0]), 2, 16) := by kernel_rfl
theorem put_full {W0 : World} {g : Nat} {w : World} {s : List UInt8} {ps : List PNode} (h : RS W0 g w s ps) (kd sg : Int) (hf : ps.length = 14) :
    Calls Tryd.prog 57 #[.pointer (some ⟨g, 0, none⟩), I kd, I sg] w fun e w' => e = .panicked [broken] ∧ Ext W0 w' := by
  obtain ⟨v, c1, ho⟩ := h.c1
  obtain ⟨A, c, rfl, -, -, -⟩ := own_slice ho
  rw [hf] at c1
  have H := Lib.hid h; clear h ho
  go_enter Tryd.func57, Tryd.ntmps57
  go_wp2
  exact ⟨rfl, rfl, H.out.ext⟩
theorem put_ok {W0 : World} {g : Nat} {w : World} {s : List UInt8} {ps : List PNode} (h : RS W0 g w s ps) (kd sg : Int) (hf : ps.length < 14) :
    Calls Tryd.prog 57 #[.pointer (some ⟨g, 0, none⟩), I kd, I sg] w fun e w' => e = .returned (I ps.length) ∧ RS W0 g w' s (ps ++ [⟨kd, sg⟩]) := by
  obtain ⟨v, c1, ho⟩ := h.c1
  obtain ⟨A, c, rfl, -, -, -⟩ := own_slice ho
  have hlt := h.lt
  obtain ⟨i0, hi, hz0, hz1, hz2⟩ := info_parts tab_node
  have f1 := h.f1
  have C1 := Lib.hid c1
  have HO := Lib.hid ho
  have H := Lib.hid h; clear h ho
  go_enter Tryd.func57, Tryd.ntmps57
  go_wp2_with (at_builtin; refine wpList_append_own_at _ rfl (.tmp 19) (.tmp 23) 22 rfl (g + 1) 70 i0 (.agg #[.int .i64 0, .int .i64 0]) 2 16 Tryd.underlying22 hi hz0 hz1 hz2 rfl (by decide) _ ps.length (flatN ps) rfl (HO.out.alloc _) ⟨w.heap.size, 0, none⟩ 1 1 [I kd, I sg] rfl rfl (fun j u hu => by rw [add_zero, World.cell?_alloc_new]; simpa using hu) (by simp [Value.oneCell']) (by unfold maxLen; omega) (by omega) (by simp; omega) ?_; intro v' w1 hown' hgrow hnil hloc; have e1 := hgrow.cell (a := ⟨g, 1, none⟩) (Keeps.alloc _ _ _ _ C1.out) (fun e => by have := (HO.out.lt g e.symm).1; omega); have e2 := hgrow.frozen_far ⟨g, 1, none⟩ (by simp; omega) (fun e => by have := (HO.out.lt g e.symm).1; omega); obtain ⟨A', c', rfl, -, -, -⟩ := own_slice hown')
  go_ret
  exact ⟨rfl, H.out.put (x := ⟨kd, sg⟩) C1.out HO.out hgrow hown'⟩
theorem set_iter (w : World) (L : ByteArray) (p g j : Nat) (v : Value) (h : g < w.heap.size) : (w.iter L p).setCell ⟨g, j, none⟩ v = (w.setCell ⟨g, j, none⟩ v).iter L p := by
  have e : w.heap.size ≠ g := by omega
  unfold World.iter
  first | exact World.setCell_alloc_past _ _ _ _ h | exact World.setCell_alloc_past _ _ _ _ _ h
theorem signP_isP (f : UInt8) (s : List UInt8) : signP f s = if isP [f] s then some (0, restP [f] s) else if isP [f + 1] s then some (1, restP [f + 1] s) else if isP [f + 2] s then some (2, restP [f + 2] s) else none := by
  cases s with
  | nil => simp [signP, isP, cutP]
  | cons c s =>
    have h : ∀ d : UInt8, isP [d] (c :: s) = decide (c = d) := fun d => by
      unfold isP; simp only [cutP]
      by_cases e : d = c
      · subst e; simp
      · rw [if_neg e]; simp; exact fun x => e x.symm
    have r : ∀ d : UInt8, c = d → restP [d] (c :: s) = s := fun d e => by subst e; simp [restP, cutP]
    simp only [signP, h]
    by_cases e0 : c = f
    · simp [e0, r f e0]; rw [← e0]; simp [restP, cutP]
    by_cases e1 : c = f + 1
    · simp only [e0, e1, if_false, if_true, decide_true, decide_false]; rw [← e1] at *; simp [e0, r c rfl]
    by_cases e2 : c = f + 2
    · simp only [e0, e1, e2, if_false, if_true, decide_true, decide_false]; rw [← e2] at *; simp [e0, e1, r c rfl]
    · simp [e0, e1, e2]
theorem sign65_any {W0 : World} {g : Nat} {w : World} {s : List UInt8} {ps : List PNode} (h : RS W0 g w s ps) :
    Calls Tryd.prog 58 #[.pointer (some ⟨g, 0, none⟩), S [65, 66, 67]] w fun e w' => match signP 65 s with | some q => e = .returned (I q.1) ∧ RS W0 g w' q.2 ps | none => e = .panicked [broken] ∧ Ext W0 w' := by
  have hlt := h.lt
  rw [signP_isP, show (65 : UInt8) + 1 = 66 from rfl, show (65 : UInt8) + 2 = 67 from rfl]
  cases hi0 : isP [65] s
  rotate_left
  ·
    simp only [hi0, if_true, if_false, Bool.false_eq_true]
    have H := Lib.hid h; clear h
    have HI0 := Lib.hid hi0
    clear hi0
    go_enter Tryd.func58, Tryd.ntmps58
    go_wp2_with fail
    refine wp_loop_rounds 4 ?_
    rw [rounds_succ]
    have n0 : ∀ t, (Instr.next (.pointer (some ⟨w.heap.size, 0, none⟩)) true t).run Tryd.prog (w.iter ⟨#[65, 66, 67]⟩ 0) = .ok (.tuple #[.bool true, .int .i64 0, .int .i32 65]) (w.iter ⟨#[65, 66, 67]⟩ 1) := fun t => run_next_ascii (P := Tryd.prog) w ⟨#[65, 66, 67]⟩ 0 t (by decide) (by decide)
    go_wp2_with fail
    refine (may_any (H.out.alloc (.stringIter ⟨#[65, 66, 67]⟩ 1)) [65] (by decide)).mono ?_; rintro e w' ⟨rfl, rfl⟩; rw [HI0.out]
    go_wp2
    go_ret
    exact ⟨rfl, (H.out.rest _ (by have := rest_len [65] s; have := H.out.short; omega)).alloc _⟩
  cases hi1 : isP [66] s
  rotate_left
  ·
    simp only [hi0, hi1, if_true, if_false, Bool.false_eq_true]
    have H := Lib.hid h; clear h
    have HI0 := Lib.hid hi0
    have HI1 := Lib.hid hi1
    have HR0 := Lib.hid (restP_no hi0)
    clear hi0 hi1
    go_enter Tryd.func58, Tryd.ntmps58
    go_wp2_with fail
    refine wp_loop_rounds 4 ?_
    rw [rounds_succ]
    have n0 : ∀ t, (Instr.next (.pointer (some ⟨w.heap.size, 0, none⟩)) true t).run Tryd.prog (w.iter ⟨#[65, 66, 67]⟩ 0) = .ok (.tuple #[.bool true, .int .i64 0, .int .i32 65]) (w.iter ⟨#[65, 66, 67]⟩ 1) := fun t => run_next_ascii (P := Tryd.prog) w ⟨#[65, 66, 67]⟩ 0 t (by decide) (by decide)
    go_wp2_with fail
    refine (may_any (H.out.alloc (.stringIter ⟨#[65, 66, 67]⟩ 1)) [65] (by decide)).mono ?_; rintro e w' ⟨rfl, rfl⟩; rw [HI0.out]
    rw [HR0.out, show (w.alloc (.stringIter ⟨#[65, 66, 67]⟩ 1)).setCell ⟨g, 0, none⟩ (S s) = (w.setCell ⟨g, 0, none⟩ (S s)).iter ⟨#[65, 66, 67]⟩ 1 from set_iter _ _ _ _ _ _ hlt]
    obtain ⟨w1, hw1⟩ : ∃ q, q = w.setCell ⟨g, 0, none⟩ (S s) := ⟨_, rfl⟩
    have HH1 : Hid (RS W0 g w1 s ps) := by rw [hw1]; exact H.out.rest s H.out.short
    have hz1 : w1.heap.size = w.heap.size := by rw [hw1]; simp
    have hlt1 : g < w1.heap.size := HH1.out.lt
    rw [← hw1]; clear hw1 n0
    go_wp2_with fail
    rw [rounds_succ]
    have n1 : ∀ t, (Instr.next (.pointer (some ⟨w1.heap.size, 0, none⟩)) true t).run Tryd.prog (w1.iter ⟨#[65, 66, 67]⟩ 1) = .ok (.tuple #[.bool true, .int .i64 1, .int .i32 66]) (w1.iter ⟨#[65, 66, 67]⟩ 2) := fun t => run_next_ascii (P := Tryd.prog) w1 ⟨#[65, 66, 67]⟩ 1 t (by decide) (by decide)
    rw [hz1] at n1
    go_wp2_with fail
    refine (may_any (HH1.out.alloc (.stringIter ⟨#[65, 66, 67]⟩ 2)) [66] (by decide)).mono ?_; rintro e w' ⟨rfl, rfl⟩; rw [HI1.out]
    go_wp2
    go_ret
    exact ⟨rfl, (HH1.out.rest _ (by have := rest_len [66] s; have := H.out.short; omega)).alloc _⟩
  cases hi2 : isP [67] s
  rotate_left
  ·
    simp only [hi0, hi1, hi2, if_true, if_false, Bool.false_eq_true]
    have H := Lib.hid h; clear h
    have HI0 := Lib.hid hi0
    have HI1 := Lib.hid hi1
    have HI2 := Lib.hid hi2
    have HR0 := Lib.hid (restP_no hi0)
    have HR1 := Lib.hid (restP_no hi1)
    clear hi0 hi1 hi2
    go_enter Tryd.func58, Tryd.ntmps58
    go_wp2_with fail
    refine wp_loop_rounds 4 ?_
    rw [rounds_succ]
    have n0 : ∀ t, (Instr.next (.pointer (some ⟨w.heap.size, 0, none⟩)) true t).run Tryd.prog (w.iter ⟨#[65, 66, 67]⟩ 0) = .ok (.tuple #[.bool true, .int .i64 0, .int .i32 65]) (w.iter ⟨#[65, 66, 67]⟩ 1) := fun t => run_next_ascii (P := Tryd.prog) w ⟨#[65, 66, 67]⟩ 0 t (by decide) (by decide)
    go_wp2_with fail
    refine (may_any (H.out.alloc (.stringIter ⟨#[65, 66, 67]⟩ 1)) [65] (by decide)).mono ?_; rintro e w' ⟨rfl, rfl⟩; rw [HI0.out]
    rw [HR0.out, show (w.alloc (.stringIter ⟨#[65, 66, 67]⟩ 1)).setCell ⟨g, 0, none⟩ (S s) = (w.setCell ⟨g, 0, none⟩ (S s)).iter ⟨#[65, 66, 67]⟩ 1 from set_iter _ _ _ _ _ _ hlt]
    obtain ⟨w1, hw1⟩ : ∃ q, q = w.setCell ⟨g, 0, none⟩ (S s) := ⟨_, rfl⟩
    have HH1 : Hid (RS W0 g w1 s ps) := by rw [hw1]; exact H.out.rest s H.out.short
    have hz1 : w1.heap.size = w.heap.size := by rw [hw1]; simp
    have hlt1 : g < w1.heap.size := HH1.out.lt
    rw [← hw1]; clear hw1 n0
    go_wp2_with fail
    rw [rounds_succ]
    have n1 : ∀ t, (Instr.next (.pointer (some ⟨w1.heap.size, 0, none⟩)) true t).run Tryd.prog (w1.iter ⟨#[65, 66, 67]⟩ 1) = .ok (.tuple #[.bool true, .int .i64 1, .int .i32 66]) (w1.iter ⟨#[65, 66, 67]⟩ 2) := fun t => run_next_ascii (P := Tryd.prog) w1 ⟨#[65, 66, 67]⟩ 1 t (by decide) (by decide)
    rw [hz1] at n1
    go_wp2_with fail
    refine (may_any (HH1.out.alloc (.stringIter ⟨#[65, 66, 67]⟩ 2)) [66] (by decide)).mono ?_; rintro e w' ⟨rfl, rfl⟩; rw [HI1.out]
    rw [HR1.out, show (w1.alloc (.stringIter ⟨#[65, 66, 67]⟩ 2)).setCell ⟨g, 0, none⟩ (S s) = (w1.setCell ⟨g, 0, none⟩ (S s)).iter ⟨#[65, 66, 67]⟩ 2 from set_iter _ _ _ _ _ _ hlt1]
    obtain ⟨w2, hw2⟩ : ∃ q, q = w1.setCell ⟨g, 0, none⟩ (S s) := ⟨_, rfl⟩
    have HH2 : Hid (RS W0 g w2 s ps) := by rw [hw2]; exact HH1.out.rest s H.out.short
    have hz2 : w2.heap.size = w.heap.size := by rw [hw2]; simp [hz1]
    have hlt2 : g < w2.heap.size := HH2.out.lt
    rw [← hw2]; clear hw2 n1
    go_wp2_with fail
    rw [rounds_succ]
    have n2 : ∀ t, (Instr.next (.pointer (some ⟨w2.heap.size, 0, none⟩)) true t).run Tryd.prog (w2.iter ⟨#[65, 66, 67]⟩ 2) = .ok (.tuple #[.bool true, .int .i64 2, .int .i32 67]) (w2.iter ⟨#[65, 66, 67]⟩ 3) := fun t => run_next_ascii (P := Tryd.prog) w2 ⟨#[65, 66, 67]⟩ 2 t (by decide) (by decide)
    rw [hz2] at n2
    go_wp2_with fail
    refine (may_any (HH2.out.alloc (.stringIter ⟨#[65, 66, 67]⟩ 3)) [67] (by decide)).mono ?_; rintro e w' ⟨rfl, rfl⟩; rw [HI2.out]
    go_wp2
    go_ret
    exact ⟨rfl, (HH2.out.rest _ (by have := rest_len [67] s; have := H.out.short; omega)).alloc _⟩
  ·
    simp only [hi0, hi1, hi2, if_true, if_false, Bool.false_eq_true]
    have H := Lib.hid h; clear h
    have HI0 := Lib.hid hi0
    have HI1 := Lib.hid hi1
    have HI2 := Lib.hid hi2
    have HR0 := Lib.hid (restP_no hi0)
    have HR1 := Lib.hid (restP_no hi1)
    have HR2 := Lib.hid (restP_no hi2)
    clear hi0 hi1 hi2
    go_enter Tryd.func58, Tryd.ntmps58
    go_wp2_with fail
    refine wp_loop_rounds 4 ?_
    rw [rounds_succ]
    have n0 : ∀ t, (Instr.next (.pointer (some ⟨w.heap.size, 0, none⟩)) true t).run Tryd.prog (w.iter ⟨#[65, 66, 67]⟩ 0) = .ok (.tuple #[.bool true, .int .i64 0, .int .i32 65]) (w.iter ⟨#[65, 66, 67]⟩ 1) := fun t => run_next_ascii (P := Tryd.prog) w ⟨#[65, 66, 67]⟩ 0 t (by decide) (by decide)
    go_wp2_with fail
    refine (may_any (H.out.alloc (.stringIter ⟨#[65, 66, 67]⟩ 1)) [65] (by decide)).mono ?_; rintro e w' ⟨rfl, rfl⟩; rw [HI0.out]
    rw [HR0.out, show (w.alloc (.stringIter ⟨#[65, 66, 67]⟩ 1)).setCell ⟨g, 0, none⟩ (S s) = (w.setCell ⟨g, 0, none⟩ (S s)).iter ⟨#[65, 66, 67]⟩ 1 from set_iter _ _ _ _ _ _ hlt]
    obtain ⟨w1, hw1⟩ : ∃ q, q = w.setCell ⟨g, 0, none⟩ (S s) := ⟨_, rfl⟩
    have HH1 : Hid (RS W0 g w1 s ps) := by rw [hw1]; exact H.out.rest s H.out.short
    have hz1 : w1.heap.size = w.heap.size := by rw [hw1]; simp
    have hlt1 : g < w1.heap.size := HH1.out.lt
    rw [← hw1]; clear hw1 n0
    go_wp2_with fail
    rw [rounds_succ]
    have n1 : ∀ t, (Instr.next (.pointer (some ⟨w1.heap.size, 0, none⟩)) true t).run Tryd.prog (w1.iter ⟨#[65, 66, 67]⟩ 1) = .ok (.tuple #[.bool true, .int .i64 1, .int .i32 66]) (w1.iter ⟨#[65, 66, 67]⟩ 2) := fun t => run_next_ascii (P := Tryd.prog) w1 ⟨#[65, 66, 67]⟩ 1 t (by decide) (by decide)
    rw [hz1] at n1
    go_wp2_with fail
    refine (may_any (HH1.out.alloc (.stringIter ⟨#[65, 66, 67]⟩ 2)) [66] (by decide)).mono ?_; rintro e w' ⟨rfl, rfl⟩; rw [HI1.out]
    rw [HR1.out, show (w1.alloc (.stringIter ⟨#[65, 66, 67]⟩ 2)).setCell ⟨g, 0, none⟩ (S s) = (w1.setCell ⟨g, 0, none⟩ (S s)).iter ⟨#[65, 66, 67]⟩ 2 from set_iter _ _ _ _ _ _ hlt1]
    obtain ⟨w2, hw2⟩ : ∃ q, q = w1.setCell ⟨g, 0, none⟩ (S s) := ⟨_, rfl⟩
    have HH2 : Hid (RS W0 g w2 s ps) := by rw [hw2]; exact HH1.out.rest s H.out.short
    have hz2 : w2.heap.size = w.heap.size := by rw [hw2]; simp [hz1]
    have hlt2 : g < w2.heap.size := HH2.out.lt
    rw [← hw2]; clear hw2 n1
    go_wp2_with fail
    rw [rounds_succ]
    have n2 : ∀ t, (Instr.next (.pointer (some ⟨w2.heap.size, 0, none⟩)) true t).run Tryd.prog (w2.iter ⟨#[65, 66, 67]⟩ 2) = .ok (.tuple #[.bool true, .int .i64 2, .int .i32 67]) (w2.iter ⟨#[65, 66, 67]⟩ 3) := fun t => run_next_ascii (P := Tryd.prog) w2 ⟨#[65, 66, 67]⟩ 2 t (by decide) (by decide)
    rw [hz2] at n2
    go_wp2_with fail
    refine (may_any (HH2.out.alloc (.stringIter ⟨#[65, 66, 67]⟩ 3)) [67] (by decide)).mono ?_; rintro e w' ⟨rfl, rfl⟩; rw [HI2.out]
    rw [HR2.out, show (w2.alloc (.stringIter ⟨#[65, 66, 67]⟩ 3)).setCell ⟨g, 0, none⟩ (S s) = (w2.setCell ⟨g, 0, none⟩ (S s)).iter ⟨#[65, 66, 67]⟩ 3 from set_iter _ _ _ _ _ _ hlt2]
    obtain ⟨w3, hw3⟩ : ∃ q, q = w2.setCell ⟨g, 0, none⟩ (S s) := ⟨_, rfl⟩
    have HH3 : Hid (RS W0 g w3 s ps) := by rw [hw3]; exact HH2.out.rest s H.out.short
    have hz3 : w3.heap.size = w.heap.size := by rw [hw3]; simp [hz2]
    have hlt3 : g < w3.heap.size := HH3.out.lt
    rw [← hw3]; clear hw3 n2
    have n3 : ∀ t, (Instr.next (.pointer (some ⟨w3.heap.size, 0, none⟩)) true t).run Tryd.prog (w3.iter ⟨#[65, 66, 67]⟩ 3) = .ok (.tuple #[.bool false]) (w3.iter ⟨#[65, 66, 67]⟩ 3) := fun t => run_next_end (P := Tryd.prog) w3 ⟨#[65, 66, 67]⟩ 3 t (by decide)
    rw [hz3] at n3
    go_wp2_with fail
    rw [rounds_succ]
    go_wp2
    exact ⟨rfl, rfl, (HH3.out.alloc _).ext⟩
theorem sign120_any {W0 : World} {g : Nat} {w : World} {s : List UInt8} {ps : List PNode} (h : RS W0 g w s ps) :
    Calls Tryd.prog 58 #[.pointer (some ⟨g, 0, none⟩), S [120, 121, 122]] w fun e w' => match signP 120 s with | some q => e = .returned (I q.1) ∧ RS W0 g w' q.2 ps | none => e = .panicked [broken] ∧ Ext W0 w' := by
  have hlt := h.lt
  rw [signP_isP, show (120 : UInt8) + 1 = 121 from rfl, show (120 : UInt8) + 2 = 122 from rfl]
  cases hi0 : isP [120] s
  rotate_left
  ·
    simp only [hi0, if_true, if_false, Bool.false_eq_true]
    have H := Lib.hid h; clear h
    have HI0 := Lib.hid hi0
    clear hi0
    go_enter Tryd.func58, Tryd.ntmps58
    go_wp2_with fail
    refine wp_loop_rounds 4 ?_
    rw [rounds_succ]
    have n0 : ∀ t, (Instr.next (.pointer (some ⟨w.heap.size, 0, none⟩)) true t).run Tryd.prog (w.iter ⟨#[120, 121, 122]⟩ 0) = .ok (.tuple #[.bool true, .int .i64 0, .int .i32 120]) (w.iter ⟨#[120, 121, 122]⟩ 1) := fun t => run_next_ascii (P := Tryd.prog) w ⟨#[120, 121, 122]⟩ 0 t (by decide) (by decide)
    go_wp2_with fail
    refine (may_any (H.out.alloc (.stringIter ⟨#[120, 121, 122]⟩ 1)) [120] (by decide)).mono ?_; rintro e w' ⟨rfl, rfl⟩; rw [HI0.out]
    go_wp2
    go_ret
    exact ⟨rfl, (H.out.rest _ (by have := rest_len [120] s; have := H.out.short; omega)).alloc _⟩
  cases hi1 : isP [121] s
  rotate_left
  ·
    simp only [hi0, hi1, if_true, if_false, Bool.false_eq_true]
    have H := Lib.hid h; clear h
    have HI0 := Lib.hid hi0
    have HI1 := Lib.hid hi1
    have HR0 := Lib.hid (restP_no hi0)
    clear hi0 hi1
    go_enter Tryd.func58, Tryd.ntmps58
    go_wp2_with fail
    refine wp_loop_rounds 4 ?_
    rw [rounds_succ]
    have n0 : ∀ t, (Instr.next (.pointer (some ⟨w.heap.size, 0, none⟩)) true t).run Tryd.prog (w.iter ⟨#[120, 121, 122]⟩ 0) = .ok (.tuple #[.bool true, .int .i64 0, .int .i32 120]) (w.iter ⟨#[120, 121, 122]⟩ 1) := fun t => run_next_ascii (P := Tryd.prog) w ⟨#[120, 121, 122]⟩ 0 t (by decide) (by decide)
    go_wp2_with fail
    refine (may_any (H.out.alloc (.stringIter ⟨#[120, 121, 122]⟩ 1)) [120] (by decide)).mono ?_; rintro e w' ⟨rfl, rfl⟩; rw [HI0.out]
    rw [HR0.out, show (w.alloc (.stringIter ⟨#[120, 121, 122]⟩ 1)).setCell ⟨g, 0, none⟩ (S s) = (w.setCell ⟨g, 0, none⟩ (S s)).iter ⟨#[120, 121, 122]⟩ 1 from set_iter _ _ _ _ _ _ hlt]
    obtain ⟨w1, hw1⟩ : ∃ q, q = w.setCell ⟨g, 0, none⟩ (S s) := ⟨_, rfl⟩
    have HH1 : Hid (RS W0 g w1 s ps) := by rw [hw1]; exact H.out.rest s H.out.short
    have hz1 : w1.heap.size = w.heap.size := by rw [hw1]; simp
    have hlt1 : g < w1.heap.size := HH1.out.lt
    rw [← hw1]; clear hw1 n0
    go_wp2_with fail
    rw [rounds_succ]
    have n1 : ∀ t, (Instr.next (.pointer (some ⟨w1.heap.size, 0, none⟩)) true t).run Tryd.prog (w1.iter ⟨#[120, 121, 122]⟩ 1) = .ok (.tuple #[.bool true, .int .i64 1, .int .i32 121]) (w1.iter ⟨#[120, 121, 122]⟩ 2) := fun t => run_next_ascii (P := Tryd.prog) w1 ⟨#[120, 121, 122]⟩ 1 t (by decide) (by decide)
    rw [hz1] at n1
    go_wp2_with fail
    refine (may_any (HH1.out.alloc (.stringIter ⟨#[120, 121, 122]⟩ 2)) [121] (by decide)).mono ?_; rintro e w' ⟨rfl, rfl⟩; rw [HI1.out]
    go_wp2
    go_ret
    exact ⟨rfl, (HH1.out.rest _ (by have := rest_len [121] s; have := H.out.short; omega)).alloc _⟩
  cases hi2 : isP [122] s
  rotate_left
  ·
    simp only [hi0, hi1, hi2, if_true, if_false, Bool.false_eq_true]
    have H := Lib.hid h; clear h
    have HI0 := Lib.hid hi0
    have HI1 := Lib.hid hi1
    have HI2 := Lib.hid hi2
    have HR0 := Lib.hid (restP_no hi0)
    have HR1 := Lib.hid (restP_no hi1)
    clear hi0 hi1 hi2
    go_enter Tryd.func58, Tryd.ntmps58
    go_wp2_with fail
    refine wp_loop_rounds 4 ?_
    rw [rounds_succ]
    have n0 : ∀ t, (Instr.next (.pointer (some ⟨w.heap.size, 0, none⟩)) true t).run Tryd.prog (w.iter ⟨#[120, 121, 122]⟩ 0) = .ok (.tuple #[.bool true, .int .i64 0, .int .i32 120]) (w.iter ⟨#[120, 121, 122]⟩ 1) := fun t => run_next_ascii (P := Tryd.prog) w ⟨#[120, 121, 122]⟩ 0 t (by decide) (by decide)
    go_wp2_with fail
    refine (may_any (H.out.alloc (.stringIter ⟨#[120, 121, 122]⟩ 1)) [120] (by decide)).mono ?_; rintro e w' ⟨rfl, rfl⟩; rw [HI0.out]
    rw [HR0.out, show (w.alloc (.stringIter ⟨#[120, 121, 122]⟩ 1)).setCell ⟨g, 0, none⟩ (S s) = (w.setCell ⟨g, 0, none⟩ (S s)).iter ⟨#[120, 121, 122]⟩ 1 from set_iter _ _ _ _ _ _ hlt]
    obtain ⟨w1, hw1⟩ : ∃ q, q = w.setCell ⟨g, 0, none⟩ (S s) := ⟨_, rfl⟩
    have HH1 : Hid (RS W0 g w1 s ps) := by rw [hw1]; exact H.out.rest s H.out.short
    have hz1 : w1.heap.size = w.heap.size := by rw [hw1]; simp
    have hlt1 : g < w1.heap.size := HH1.out.lt
    rw [← hw1]; clear hw1 n0
    go_wp2_with fail
    rw [rounds_succ]
    have n1 : ∀ t, (Instr.next (.pointer (some ⟨w1.heap.size, 0, none⟩)) true t).run Tryd.prog (w1.iter ⟨#[120, 121, 122]⟩ 1) = .ok (.tuple #[.bool true, .int .i64 1, .int .i32 121]) (w1.iter ⟨#[120, 121, 122]⟩ 2) := fun t => run_next_ascii (P := Tryd.prog) w1 ⟨#[120, 121, 122]⟩ 1 t (by decide) (by decide)
    rw [hz1] at n1
    go_wp2_with fail
    refine (may_any (HH1.out.alloc (.stringIter ⟨#[120, 121, 122]⟩ 2)) [121] (by decide)).mono ?_; rintro e w' ⟨rfl, rfl⟩; rw [HI1.out]
    rw [HR1.out, show (w1.alloc (.stringIter ⟨#[120, 121, 122]⟩ 2)).setCell ⟨g, 0, none⟩ (S s) = (w1.setCell ⟨g, 0, none⟩ (S s)).iter ⟨#[120, 121, 122]⟩ 2 from set_iter _ _ _ _ _ _ hlt1]
    obtain ⟨w2, hw2⟩ : ∃ q, q = w1.setCell ⟨g, 0, none⟩ (S s) := ⟨_, rfl⟩
    have HH2 : Hid (RS W0 g w2 s ps) := by rw [hw2]; exact HH1.out.rest s H.out.short
    have hz2 : w2.heap.size = w.heap.size := by rw [hw2]; simp [hz1]
    have hlt2 : g < w2.heap.size := HH2.out.lt
    rw [← hw2]; clear hw2 n1
    go_wp2_with fail
    rw [rounds_succ]
    have n2 : ∀ t, (Instr.next (.pointer (some ⟨w2.heap.size, 0, none⟩)) true t).run Tryd.prog (w2.iter ⟨#[120, 121, 122]⟩ 2) = .ok (.tuple #[.bool true, .int .i64 2, .int .i32 122]) (w2.iter ⟨#[120, 121, 122]⟩ 3) := fun t => run_next_ascii (P := Tryd.prog) w2 ⟨#[120, 121, 122]⟩ 2 t (by decide) (by decide)
    rw [hz2] at n2
    go_wp2_with fail
    refine (may_any (HH2.out.alloc (.stringIter ⟨#[120, 121, 122]⟩ 3)) [122] (by decide)).mono ?_; rintro e w' ⟨rfl, rfl⟩; rw [HI2.out]
    go_wp2
    go_ret
    exact ⟨rfl, (HH2.out.rest _ (by have := rest_len [122] s; have := H.out.short; omega)).alloc _⟩
  ·
    simp only [hi0, hi1, hi2, if_true, if_false, Bool.false_eq_true]
    have H := Lib.hid h; clear h
    have HI0 := Lib.hid hi0
    have HI1 := Lib.hid hi1
    have HI2 := Lib.hid hi2
    have HR0 := Lib.hid (restP_no hi0)
    have HR1 := Lib.hid (restP_no hi1)
    have HR2 := Lib.hid (restP_no hi2)
    clear hi0 hi1 hi2
    go_enter Tryd.func58, Tryd.ntmps58
    go_wp2_with fail
    refine wp_loop_rounds 4 ?_
    rw [rounds_succ]
    have n0 : ∀ t, (Instr.next (.pointer (some ⟨w.heap.size, 0, none⟩)) true t).run Tryd.prog (w.iter ⟨#[120, 121, 122]⟩ 0) = .ok (.tuple #[.bool true, .int .i64 0, .int .i32 120]) (w.iter ⟨#[120, 121, 122]⟩ 1) := fun t => run_next_ascii (P := Tryd.prog) w ⟨#[120, 121, 122]⟩ 0 t (by decide) (by decide)
    go_wp2_with fail
    refine (may_any (H.out.alloc (.stringIter ⟨#[120, 121, 122]⟩ 1)) [120] (by decide)).mono ?_; rintro e w' ⟨rfl, rfl⟩; rw [HI0.out]
    rw [HR0.out, show (w.alloc (.stringIter ⟨#[120, 121, 122]⟩ 1)).setCell ⟨g, 0, none⟩ (S s) = (w.setCell ⟨g, 0, none⟩ (S s)).iter ⟨#[120, 121, 122]⟩ 1 from set_iter _ _ _ _ _ _ hlt]
    obtain ⟨w1, hw1⟩ : ∃ q, q = w.setCell ⟨g, 0, none⟩ (S s) := ⟨_, rfl⟩
    have HH1 : Hid (RS W0 g w1 s ps) := by rw [hw1]; exact H.out.rest s H.out.short
    have hz1 : w1.heap.size = w.heap.size := by rw [hw1]; simp
    have hlt1 : g < w1.heap.size := HH1.out.lt
    rw [← hw1]; clear hw1 n0
    go_wp2_with fail
    rw [rounds_succ]
    have n1 : ∀ t, (Instr.next (.pointer (some ⟨w1.heap.size, 0, none⟩)) true t).run Tryd.prog (w1.iter ⟨#[120, 121, 122]⟩ 1) = .ok (.tuple #[.bool true, .int .i64 1, .int .i32 121]) (w1.iter ⟨#[120, 121, 122]⟩ 2) := fun t => run_next_ascii (P := Tryd.prog) w1 ⟨#[120, 121, 122]⟩ 1 t (by decide) (by decide)
    rw [hz1] at n1
    go_wp2_with fail
    refine (may_any (HH1.out.alloc (.stringIter ⟨#[120, 121, 122]⟩ 2)) [121] (by decide)).mono ?_; rintro e w' ⟨rfl, rfl⟩; rw [HI1.out]
    rw [HR1.out, show (w1.alloc (.stringIter ⟨#[120, 121, 122]⟩ 2)).setCell ⟨g, 0, none⟩ (S s) = (w1.setCell ⟨g, 0, none⟩ (S s)).iter ⟨#[120, 121, 122]⟩ 2 from set_iter _ _ _ _ _ _ hlt1]
    obtain ⟨w2, hw2⟩ : ∃ q, q = w1.setCell ⟨g, 0, none⟩ (S s) := ⟨_, rfl⟩
    have HH2 : Hid (RS W0 g w2 s ps) := by rw [hw2]; exact HH1.out.rest s H.out.short
    have hz2 : w2.heap.size = w.heap.size := by rw [hw2]; simp [hz1]
    have hlt2 : g < w2.heap.size := HH2.out.lt
    rw [← hw2]; clear hw2 n1
    go_wp2_with fail
    rw [rounds_succ]
    have n2 : ∀ t, (Instr.next (.pointer (some ⟨w2.heap.size, 0, none⟩)) true t).run Tryd.prog (w2.iter ⟨#[120, 121, 122]⟩ 2) = .ok (.tuple #[.bool true, .int .i64 2, .int .i32 122]) (w2.iter ⟨#[120, 121, 122]⟩ 3) := fun t => run_next_ascii (P := Tryd.prog) w2 ⟨#[120, 121, 122]⟩ 2 t (by decide) (by decide)
    rw [hz2] at n2
    go_wp2_with fail
    refine (may_any (HH2.out.alloc (.stringIter ⟨#[120, 121, 122]⟩ 3)) [122] (by decide)).mono ?_; rintro e w' ⟨rfl, rfl⟩; rw [HI2.out]
    rw [HR2.out, show (w2.alloc (.stringIter ⟨#[120, 121, 122]⟩ 3)).setCell ⟨g, 0, none⟩ (S s) = (w2.setCell ⟨g, 0, none⟩ (S s)).iter ⟨#[120, 121, 122]⟩ 3 from set_iter _ _ _ _ _ _ hlt2]
    obtain ⟨w3, hw3⟩ : ∃ q, q = w2.setCell ⟨g, 0, none⟩ (S s) := ⟨_, rfl⟩
    have HH3 : Hid (RS W0 g w3 s ps) := by rw [hw3]; exact HH2.out.rest s H.out.short
    have hz3 : w3.heap.size = w.heap.size := by rw [hw3]; simp [hz2]
    have hlt3 : g < w3.heap.size := HH3.out.lt
    rw [← hw3]; clear hw3 n2
    have n3 : ∀ t, (Instr.next (.pointer (some ⟨w3.heap.size, 0, none⟩)) true t).run Tryd.prog (w3.iter ⟨#[120, 121, 122]⟩ 3) = .ok (.tuple #[.bool false]) (w3.iter ⟨#[120, 121, 122]⟩ 3) := fun t => run_next_end (P := Tryd.prog) w3 ⟨#[120, 121, 122]⟩ 3 t (by decide)
    rw [hz3] at n3
    go_wp2_with fail
    rw [rounds_succ]
    go_wp2
    exact ⟨rfl, rfl, (HH3.out.alloc _).ext⟩
end Go.Proofs.YtgohhcnmkomafaaDoor
/- text's reader: fork and node walked. -/
namespace Go.Proofs.YtgohhcnmkomafaaDoor
set_option linter.unusedVariables false
set_option linter.unusedSimpArgs false
open Go.RowKit
theorem cutP_isP (w s : List UInt8) : cutP w s = if isP w s then some (restP w s) else none := by
  unfold isP restP; cases cutP w s <;> rfl
theorem flat_two (x : PNode) (a b : Tr) : (Tr.two x a b).flat = x :: (a.flat ++ b.flat) := by simp [Tr.flat]
section
variable {W0 w : World} {g : Nat} {s : List UInt8} {ps : List PNode}
theorem RS.cut (h : RS W0 g w s ps) (word : List UInt8) : RS W0 g (w.setCell ⟨g, 0, none⟩ (S (restP word s))) (restP word s) ps := h.rest _ (by have := rest_len word s; have := h.short; omega)
theorem may_no (h : RS W0 g w s ps) (word : List UInt8) (hw : word.length ≤ 1000) (hi : isP word s = false) :
    Calls Tryd.prog 56 #[.pointer (some ⟨g, 0, none⟩), S word] w fun e w' => e = .returned (.bool false) ∧ RS W0 g w' s ps := by
  refine (may_any h word hw).mono ?_; rintro e w1 ⟨rfl, rfl⟩
  exact ⟨by rw [hi], by have := h.cut word; rwa [restP_no hi] at this ⊢⟩
theorem may_yes (h : RS W0 g w s ps) (word : List UInt8) (hw : word.length ≤ 1000) (hi : isP word s = true) :
    Calls Tryd.prog 56 #[.pointer (some ⟨g, 0, none⟩), S word] w fun e w' => e = .returned (.bool true) ∧ RS W0 g w' (restP word s) ps := by
  refine (may_any h word hw).mono ?_; rintro e w1 ⟨rfl, rfl⟩
  exact ⟨by rw [hi], h.cut word⟩
theorem must_yes' (h : RS W0 g w s ps) (word : List UInt8) (hw : word.length ≤ 1000) (hi : isP word s = true) :
    Calls Tryd.prog 60 #[.pointer (some ⟨g, 0, none⟩), S word] w fun e w' => e = .returned (.tuple #[]) ∧ RS W0 g w' (restP word s) ps := by
  refine (must_yes h word hw hi).mono ?_; rintro e w1 ⟨rfl, rfl⟩
  exact ⟨rfl, h.cut word⟩
theorem flatN_len (ps : List PNode) : (flatN ps).length = ps.length * 2 := by
  induction ps with
  | nil => rfl
  | cons x l ih => simp only [flatN, List.flatMap_cons, List.length_append, List.length_cons] at *; rw [ih]; simp; omega
/-- The node that a reader put first is of another kind now. -/
theorem RS.kind {qs : List PNode} {x : PNode} (h : RS W0 g w s (ps ++ x :: qs)) (kd : Int) : ∃ b c, w.cell? ⟨g, 1, none⟩ = some (.slice (some ⟨b, 0, none⟩) (ps.length + (qs.length + 1)) c) ∧ w.cell? ⟨b, ps.length * 2, none⟩ = some (PK x) ∧ w.frozen? ⟨b, ps.length * 2, none⟩ = false ∧
    RS W0 g (w.setCell ⟨b, ps.length * 2, none⟩ (I kd)) s (ps ++ ⟨kd, x.sig⟩ :: qs) := by
  obtain ⟨v, c1, ho⟩ := h.c1
  have hl : (ps ++ x :: qs).length = ps.length + (qs.length + 1) := by simp
  rw [hl] at ho
  obtain ⟨b, c, rfl⟩ := own_form ho (by omega)
  have hb := (ho.lt b rfl)
  have hg := (flat2_get PK PS (ps ++ x :: qs) ps.length)
  have hx : (ps ++ x :: qs)[ps.length]? = some x := by simp
  rw [hx] at hg
  have hst := ho.stored (ps.length * 2) (I kd)
  have hset : (flatN (ps ++ x :: qs)).set (ps.length * 2) (I kd) = flatN (ps ++ ⟨kd, x.sig⟩ :: qs) := by
    have e : (flatN ps).length = ps.length * 2 := flatN_len ps
    simp only [flatN, List.flatMap_append, List.flatMap_cons]
    rw [List.set_append_right _ _ (by rw [show (List.flatMap (fun x => [PK x, PS x]) ps).length = ps.length * 2 from e]; exact Nat.le_refl _)]
    rw [show (List.flatMap (fun x => [PK x, PS x]) ps).length = ps.length * 2 from e]; simp
  rw [hset] at hst
  refine ⟨b, c, c1, ?_, ho.frozenAt _, h.ext.setCell (by show W0.heap.size ≤ b; have := h.low; omega) _, h.low, ?_, ?_, ⟨.slice (some ⟨b, 0, none⟩) (ps.length + (qs.length + 1)) c, ?_, ?_⟩, ?_, h.short⟩
  · rw [ho.cellAt _ (by omega)]; exact hg.1
  · rw [World.cell?_setCell_other _ _ _ _ (by intro e; injection e; omega)]; exact h.c0
  · rw [World.frozen?_setCell]; exact h.f0
  · rw [World.cell?_setCell_other _ _ _ _ (by intro e; injection e; omega)]; exact c1
  · have := hst.1; simpa using this
  · rw [World.frozen?_setCell]; exact h.f1
end
/-- What node leaves. -/
def NodePost (W0 : World) (g : Nat) (ps : List PNode) (o : Option (Tr × List UInt8)) (e : Ending) (w' : World) : Prop :=
  match o with | some q => e = .returned (.tuple #[]) ∧ RS W0 g w' q.2 (ps ++ q.1.flat) | none => e = .panicked [broken] ∧ Ext W0 w'
def NodeOK (n : Nat) : Prop := ∀ (W0 : World) (g : Nat) (w : World) (s : List UInt8) (ps : List PNode) (left : Nat), RS W0 g w s ps → ps.length + left = 14 → left < n →
  Calls Tryd.prog 36 #[.pointer (some ⟨g, 0, none⟩)] w (NodePost W0 g ps (readT n left s))
theorem NodeOK.yes {n : Nat} (h : NodeOK n) {W0 : World} {g : Nat} {w : World} {s : List UInt8} {ps : List PNode} {left : Nat} (hr : RS W0 g w s ps) (hl : ps.length + left = 14) (hn : left < n) {q : Tr × List UInt8} (hq : readT n left s = some q) :
    Calls Tryd.prog 36 #[.pointer (some ⟨g, 0, none⟩)] w fun e w' => e = .returned (.tuple #[]) ∧ RS W0 g w' q.2 (ps ++ q.1.flat) := by
  have := h W0 g w s ps left hr hl hn; rw [hq] at this; exact this
theorem NodeOK.no {n : Nat} (h : NodeOK n) {W0 : World} {g : Nat} {w : World} {s : List UInt8} {ps : List PNode} {left : Nat} (hr : RS W0 g w s ps) (hl : ps.length + left = 14) (hn : left < n) (hq : readT n left s = none) :
    Calls Tryd.prog 36 #[.pointer (some ⟨g, 0, none⟩)] w fun e w' => e = .panicked [broken] ∧ Ext W0 w' := by
  have := h W0 g w s ps left hr hl hn; rw [hq] at this; exact this
theorem read_small {n left : Nat} {s r : List UInt8} {t : Tr} (h : readT n left s = some (t, r)) : t.size ≤ left := (read_sound n _ _ _ _ h).small
/-- What fork leaves. -/
def ForkPost (W0 : World) (g : Nat) (ps : List PNode) (x : PNode) (o : Option (Tr × List UInt8)) (e : Ending) (w' : World) : Prop :=
  match o with | some q => ∃ a b, q.1 = .two x a b ∧ e = .returned (.tuple #[]) ∧ RS W0 g w' q.2 (ps ++ (a.flat ++ b.flat)) | none => e = .panicked [broken] ∧ Ext W0 w'
set_option maxHeartbeats 2000000 in
theorem fork_any {n : Nat} (hN : NodeOK n) {W0 : World} {g : Nat} {w : World} {s : List UInt8} {ps : List PNode} {left : Nat} (h : RS W0 g w s ps) (hl : ps.length + left = 14) (hn : left < n) (x : PNode) :
    Calls Tryd.prog 59 #[.pointer (some ⟨g, 0, none⟩)] w (ForkPost W0 g ps x (forkT (readT n) left x s)) := by
  generalize hF : forkT (readT n) left x s = F
  unfold forkT behindT at hF
  have HN := Lib.hid hN; clear hN
  rw [cutP_isP] at hF
  cases hi : isP wThen s
  · rw [hi] at hF; simp at hF; subst hF
    have HI := Lib.hid hi; have H := Lib.hid h; clear hi h
    go_enter Tryd.func59, Tryd.ntmps59
    go_wp2_with fail
    refine (must_no H.out wThen (by decide) HI.out).mono ?_; rintro e w1 ⟨rfl, x1⟩
    go_wp2
    exact ⟨rfl, rfl, x1⟩
  rw [hi] at hF; simp only [if_true, Option.bind_some] at hF
  generalize hr1 : restP wThen s = s1 at hF
  cases ha : readT n left s1 with
  | none =>
    rw [ha] at hF; simp at hF; subst hF
    have HI := Lib.hid hi; have H := Lib.hid h; subst hr1; have HA := Lib.hid ha; clear hi h ha
    go_enter Tryd.func59, Tryd.ntmps59
    go_wp2_with fail
    refine (must_yes' H.out wThen (by decide) HI.out).mono ?_; rintro e w1 ⟨rfl, h1⟩
    have H1 := Lib.hid h1; clear h1
    go_wp2_with fail
    refine (HN.out.no H1.out hl hn HA.out).mono ?_; rintro e w2 ⟨rfl, x2⟩
    go_wp2
    exact ⟨rfl, rfl, x2⟩
  | some qa =>
    obtain ⟨a, sa⟩ := qa
    have hsm := read_small ha
    have HL2 : Hid ((ps ++ a.flat).length + (left - a.size) = 14) := by unfold Hid; rw [List.length_append, flat_size]; omega
    have hn2 : left - a.size < n := by omega
    rw [ha] at hF; simp only [Option.bind_some] at hF
    rw [cutP_isP] at hF
    cases he : isP wElse sa
    · rw [he] at hF; simp at hF; subst hF
      have HI := Lib.hid hi; have H := Lib.hid h; subst hr1; have HA := Lib.hid ha; have HE := Lib.hid he; clear hi h ha he
      go_enter Tryd.func59, Tryd.ntmps59
      go_wp2_with fail
      refine (must_yes' H.out wThen (by decide) HI.out).mono ?_; rintro e w1 ⟨rfl, h1⟩
      have H1 := Lib.hid h1; clear h1
      go_wp2_with fail
      refine (HN.out.yes H1.out hl hn HA.out).mono ?_; rintro e w2 ⟨rfl, h2⟩
      have H2 := Lib.hid h2; clear h2
      go_wp2_with fail
      refine (must_no H2.out wElse (by decide) HE.out).mono ?_; rintro e w3 ⟨rfl, x3⟩
      go_wp2
      exact ⟨rfl, rfl, x3⟩
    rw [he] at hF; simp only [if_true, Option.bind_some] at hF
    cases hb : readT n (left - a.size) (restP wElse sa) with
    | none =>
      rw [hb] at hF; simp at hF; subst hF
      have HI := Lib.hid hi; have H := Lib.hid h; subst hr1; have HA := Lib.hid ha; have HE := Lib.hid he; have HB := Lib.hid hb; clear hi h ha he hb
      go_enter Tryd.func59, Tryd.ntmps59
      go_wp2_with fail
      refine (must_yes' H.out wThen (by decide) HI.out).mono ?_; rintro e w1 ⟨rfl, h1⟩
      have H1 := Lib.hid h1; clear h1
      go_wp2_with fail
      refine (HN.out.yes H1.out hl hn HA.out).mono ?_; rintro e w2 ⟨rfl, h2⟩
      have H2 := Lib.hid h2; clear h2
      go_wp2_with fail
      refine (must_yes' H2.out wElse (by decide) HE.out).mono ?_; rintro e w3 ⟨rfl, h3⟩
      have H3 := Lib.hid h3; clear h3
      go_wp2_with fail
      refine (HN.out.no H3.out HL2.out hn2 HB.out).mono ?_; rintro e w4 ⟨rfl, x4⟩
      go_wp2
      exact ⟨rfl, rfl, x4⟩
    | some qb =>
      obtain ⟨b, sb⟩ := qb
      rw [hb] at hF; simp only [Option.bind_some] at hF
      rw [cutP_isP] at hF
      cases hd : isP wEnd sb
      · rw [hd] at hF; simp at hF; subst hF
        have HI := Lib.hid hi; have H := Lib.hid h; subst hr1; have HA := Lib.hid ha; have HE := Lib.hid he; have HB := Lib.hid hb; have HD := Lib.hid hd; clear hi h ha he hb hd
        go_enter Tryd.func59, Tryd.ntmps59
        go_wp2_with fail
        refine (must_yes' H.out wThen (by decide) HI.out).mono ?_; rintro e w1 ⟨rfl, h1⟩
        have H1 := Lib.hid h1; clear h1
        go_wp2_with fail
        refine (HN.out.yes H1.out hl hn HA.out).mono ?_; rintro e w2 ⟨rfl, h2⟩
        have H2 := Lib.hid h2; clear h2
        go_wp2_with fail
        refine (must_yes' H2.out wElse (by decide) HE.out).mono ?_; rintro e w3 ⟨rfl, h3⟩
        have H3 := Lib.hid h3; clear h3
        go_wp2_with fail
        refine (HN.out.yes H3.out HL2.out hn2 HB.out).mono ?_; rintro e w4 ⟨rfl, h4⟩
        have H4 := Lib.hid h4; clear h4
        go_wp2_with fail
        refine (must_no H4.out wEnd (by decide) HD.out).mono ?_; rintro e w5 ⟨rfl, x5⟩
        go_wp2
        exact ⟨rfl, rfl, x5⟩
      · rw [hd] at hF; simp at hF; subst hF
        have HI := Lib.hid hi; have H := Lib.hid h; subst hr1; have HA := Lib.hid ha; have HE := Lib.hid he; have HB := Lib.hid hb; have HD := Lib.hid hd; clear hi h ha he hb hd
        go_enter Tryd.func59, Tryd.ntmps59
        go_wp2_with fail
        refine (must_yes' H.out wThen (by decide) HI.out).mono ?_; rintro e w1 ⟨rfl, h1⟩
        have H1 := Lib.hid h1; clear h1
        go_wp2_with fail
        refine (HN.out.yes H1.out hl hn HA.out).mono ?_; rintro e w2 ⟨rfl, h2⟩
        have H2 := Lib.hid h2; clear h2
        go_wp2_with fail
        refine (must_yes' H2.out wElse (by decide) HE.out).mono ?_; rintro e w3 ⟨rfl, h3⟩
        have H3 := Lib.hid h3; clear h3
        go_wp2_with fail
        refine (HN.out.yes H3.out HL2.out hn2 HB.out).mono ?_; rintro e w4 ⟨rfl, h4⟩
        have H4 := Lib.hid h4; clear h4
        go_wp2_with fail
        refine (must_yes' H4.out wEnd (by decide) HD.out).mono ?_; rintro e w5 ⟨rfl, h5⟩
        go_wp2
        go_end0
        exact ⟨a, b, rfl, rfl, by rw [← List.append_assoc]; exact h5⟩
-- node, where no node may come any more
set_option maxHeartbeats 2000000 in
theorem node_full0 {W0 : World} {g : Nat} {w : World} {s : List UInt8} {ps : List PNode} (h : RS W0 g w s ps) (hl : ps.length = 14) (hi0 : isP wNothing s = true) :
    Calls Tryd.prog 36 #[.pointer (some ⟨g, 0, none⟩)] w fun e w' => e = .panicked [broken] ∧ Ext W0 w' := by
  have H0 := Lib.hid h; clear h
  have HI0' := Lib.hid hi0; clear hi0
  go_enter Tryd.func36, Tryd.ntmps36
  go_wp2_with fail
  refine (may_yes H0.out wNothing (by decide) HI0'.out).mono ?_; rintro e w1 ⟨rfl, h1⟩
  have H1 := Lib.hid h1; clear h1
  go_wp2_with fail
  refine (put_full H1.out 0 0 hl).mono ?_; rintro e w2 ⟨rfl, x2⟩
  go_wp2
  exact ⟨rfl, rfl, x2⟩
set_option maxHeartbeats 2000000 in
theorem node_full1 {W0 : World} {g : Nat} {w : World} {s : List UInt8} {ps : List PNode} (h : RS W0 g w s ps) (hl : ps.length = 14) (hi0 : isP wNothing s = false) (hi1 : isP wPause s = true) :
    Calls Tryd.prog 36 #[.pointer (some ⟨g, 0, none⟩)] w fun e w' => e = .panicked [broken] ∧ Ext W0 w' := by
  have H0 := Lib.hid h; clear h
  have HI0' := Lib.hid hi0; clear hi0
  have HI1' := Lib.hid hi1; clear hi1
  go_enter Tryd.func36, Tryd.ntmps36
  go_wp2_with fail
  refine (may_no H0.out wNothing (by decide) HI0'.out).mono ?_; rintro e w1 ⟨rfl, h1⟩
  have H1 := Lib.hid h1; clear h1
  go_wp2_with fail
  refine (may_yes H1.out wPause (by decide) HI1'.out).mono ?_; rintro e w2 ⟨rfl, h2⟩
  have H2 := Lib.hid h2; clear h2
  go_wp2_with fail
  refine (put_full H2.out 1 0 hl).mono ?_; rintro e w3 ⟨rfl, x3⟩
  go_wp2
  exact ⟨rfl, rfl, x3⟩
set_option maxHeartbeats 2000000 in
theorem node_full2 {W0 : World} {g : Nat} {w : World} {s : List UInt8} {ps : List PNode} (h : RS W0 g w s ps) (hl : ps.length = 14) (hi0 : isP wNothing s = false) (hi1 : isP wPause s = false) (hi2 : isP wHalt s = true) :
    Calls Tryd.prog 36 #[.pointer (some ⟨g, 0, none⟩)] w fun e w' => e = .panicked [broken] ∧ Ext W0 w' := by
  have H0 := Lib.hid h; clear h
  have HI0' := Lib.hid hi0; clear hi0
  have HI1' := Lib.hid hi1; clear hi1
  have HI2' := Lib.hid hi2; clear hi2
  go_enter Tryd.func36, Tryd.ntmps36
  go_wp2_with fail
  refine (may_no H0.out wNothing (by decide) HI0'.out).mono ?_; rintro e w1 ⟨rfl, h1⟩
  have H1 := Lib.hid h1; clear h1
  go_wp2_with fail
  refine (may_no H1.out wPause (by decide) HI1'.out).mono ?_; rintro e w2 ⟨rfl, h2⟩
  have H2 := Lib.hid h2; clear h2
  go_wp2_with fail
  refine (may_yes H2.out wHalt (by decide) HI2'.out).mono ?_; rintro e w3 ⟨rfl, h3⟩
  have H3 := Lib.hid h3; clear h3
  go_wp2_with fail
  refine (put_full H3.out 2 0 hl).mono ?_; rintro e w4 ⟨rfl, x4⟩
  go_wp2
  exact ⟨rfl, rfl, x4⟩
set_option maxHeartbeats 2000000 in
theorem node_sign3 {W0 : World} {g : Nat} {w : World} {s : List UInt8} {ps : List PNode} (h : RS W0 g w s ps) (hi0 : isP wNothing s = false) (hi1 : isP wPause s = false) (hi2 : isP wHalt s = false) (hi3 : isP wEmit s = true) (hn : signP 65 (restP wEmit s) = none) :
    Calls Tryd.prog 36 #[.pointer (some ⟨g, 0, none⟩)] w fun e w' => e = .panicked [broken] ∧ Ext W0 w' := by
  have hs := fun (Q : World) (hQ : RS W0 g Q (restP wEmit s) ps) => sign65_any hQ
  rw [hn] at hs
  have H0 := Lib.hid h; clear h
  have HI0' := Lib.hid hi0; clear hi0
  have HI1' := Lib.hid hi1; clear hi1
  have HI2' := Lib.hid hi2; clear hi2
  have HI3' := Lib.hid hi3; clear hi3
  have HN' := Lib.hid hn; clear hn
  have HS' := Lib.hid hs; clear hs
  go_enter Tryd.func36, Tryd.ntmps36
  go_wp2_with fail
  refine (may_no H0.out wNothing (by decide) HI0'.out).mono ?_; rintro e w1 ⟨rfl, h1⟩
  have H1 := Lib.hid h1; clear h1
  go_wp2_with fail
  refine (may_no H1.out wPause (by decide) HI1'.out).mono ?_; rintro e w2 ⟨rfl, h2⟩
  have H2 := Lib.hid h2; clear h2
  go_wp2_with fail
  refine (may_no H2.out wHalt (by decide) HI2'.out).mono ?_; rintro e w3 ⟨rfl, h3⟩
  have H3 := Lib.hid h3; clear h3
  go_wp2_with fail
  refine (may_yes H3.out wEmit (by decide) HI3'.out).mono ?_; rintro e w4 ⟨rfl, h4⟩
  have H4 := Lib.hid h4; clear h4
  go_wp2_with fail
  refine (HS'.out _ H4.out).mono ?_; rintro e w5 ⟨rfl, x5⟩
  go_wp2
  exact ⟨rfl, rfl, x5⟩
set_option maxHeartbeats 2000000 in
theorem node_full3 {W0 : World} {g : Nat} {w : World} {s : List UInt8} {ps : List PNode} (h : RS W0 g w s ps) (hl : ps.length = 14) (hi0 : isP wNothing s = false) (hi1 : isP wPause s = false) (hi2 : isP wHalt s = false) (hi3 : isP wEmit s = true) {q : Int × List UInt8} (hn : signP 65 (restP wEmit s) = some q) :
    Calls Tryd.prog 36 #[.pointer (some ⟨g, 0, none⟩)] w fun e w' => e = .panicked [broken] ∧ Ext W0 w' := by
  have hs := fun (Q : World) (hQ : RS W0 g Q (restP wEmit s) ps) => sign65_any hQ
  rw [hn] at hs
  obtain ⟨y, r⟩ := q
  have H0 := Lib.hid h; clear h
  have HI0' := Lib.hid hi0; clear hi0
  have HI1' := Lib.hid hi1; clear hi1
  have HI2' := Lib.hid hi2; clear hi2
  have HI3' := Lib.hid hi3; clear hi3
  have HN' := Lib.hid hn; clear hn
  have HS' := Lib.hid hs; clear hs
  go_enter Tryd.func36, Tryd.ntmps36
  go_wp2_with fail
  refine (may_no H0.out wNothing (by decide) HI0'.out).mono ?_; rintro e w1 ⟨rfl, h1⟩
  have H1 := Lib.hid h1; clear h1
  go_wp2_with fail
  refine (may_no H1.out wPause (by decide) HI1'.out).mono ?_; rintro e w2 ⟨rfl, h2⟩
  have H2 := Lib.hid h2; clear h2
  go_wp2_with fail
  refine (may_no H2.out wHalt (by decide) HI2'.out).mono ?_; rintro e w3 ⟨rfl, h3⟩
  have H3 := Lib.hid h3; clear h3
  go_wp2_with fail
  refine (may_yes H3.out wEmit (by decide) HI3'.out).mono ?_; rintro e w4 ⟨rfl, h4⟩
  have H4 := Lib.hid h4; clear h4
  go_wp2_with fail
  refine (HS'.out _ H4.out).mono ?_; rintro e w5 ⟨rfl, h5⟩
  have H5 := Lib.hid h5; clear h5
  go_wp2_with fail
  refine (put_full H5.out 3 y hl).mono ?_; rintro e w6 ⟨rfl, x6⟩
  go_wp2
  exact ⟨rfl, rfl, x6⟩
set_option maxHeartbeats 2000000 in
theorem node_sign4 {W0 : World} {g : Nat} {w : World} {s : List UInt8} {ps : List PNode} (h : RS W0 g w s ps) (hi0 : isP wNothing s = false) (hi1 : isP wPause s = false) (hi2 : isP wHalt s = false) (hi3 : isP wEmit s = false) (hi4 : isP wAwait s = true) (hn : signP 120 (restP wAwait s) = none) :
    Calls Tryd.prog 36 #[.pointer (some ⟨g, 0, none⟩)] w fun e w' => e = .panicked [broken] ∧ Ext W0 w' := by
  have hs := fun (Q : World) (hQ : RS W0 g Q (restP wAwait s) ps) => sign120_any hQ
  rw [hn] at hs
  have H0 := Lib.hid h; clear h
  have HI0' := Lib.hid hi0; clear hi0
  have HI1' := Lib.hid hi1; clear hi1
  have HI2' := Lib.hid hi2; clear hi2
  have HI3' := Lib.hid hi3; clear hi3
  have HI4' := Lib.hid hi4; clear hi4
  have HN' := Lib.hid hn; clear hn
  have HS' := Lib.hid hs; clear hs
  go_enter Tryd.func36, Tryd.ntmps36
  go_wp2_with fail
  refine (may_no H0.out wNothing (by decide) HI0'.out).mono ?_; rintro e w1 ⟨rfl, h1⟩
  have H1 := Lib.hid h1; clear h1
  go_wp2_with fail
  refine (may_no H1.out wPause (by decide) HI1'.out).mono ?_; rintro e w2 ⟨rfl, h2⟩
  have H2 := Lib.hid h2; clear h2
  go_wp2_with fail
  refine (may_no H2.out wHalt (by decide) HI2'.out).mono ?_; rintro e w3 ⟨rfl, h3⟩
  have H3 := Lib.hid h3; clear h3
  go_wp2_with fail
  refine (may_no H3.out wEmit (by decide) HI3'.out).mono ?_; rintro e w4 ⟨rfl, h4⟩
  have H4 := Lib.hid h4; clear h4
  go_wp2_with fail
  refine (may_yes H4.out wAwait (by decide) HI4'.out).mono ?_; rintro e w5 ⟨rfl, h5⟩
  have H5 := Lib.hid h5; clear h5
  go_wp2_with fail
  refine (HS'.out _ H5.out).mono ?_; rintro e w6 ⟨rfl, x6⟩
  go_wp2
  exact ⟨rfl, rfl, x6⟩
set_option maxHeartbeats 2000000 in
theorem node_full4 {W0 : World} {g : Nat} {w : World} {s : List UInt8} {ps : List PNode} (h : RS W0 g w s ps) (hl : ps.length = 14) (hi0 : isP wNothing s = false) (hi1 : isP wPause s = false) (hi2 : isP wHalt s = false) (hi3 : isP wEmit s = false) (hi4 : isP wAwait s = true) {q : Int × List UInt8} (hn : signP 120 (restP wAwait s) = some q) :
    Calls Tryd.prog 36 #[.pointer (some ⟨g, 0, none⟩)] w fun e w' => e = .panicked [broken] ∧ Ext W0 w' := by
  have hs := fun (Q : World) (hQ : RS W0 g Q (restP wAwait s) ps) => sign120_any hQ
  rw [hn] at hs
  obtain ⟨y, r⟩ := q
  have H0 := Lib.hid h; clear h
  have HI0' := Lib.hid hi0; clear hi0
  have HI1' := Lib.hid hi1; clear hi1
  have HI2' := Lib.hid hi2; clear hi2
  have HI3' := Lib.hid hi3; clear hi3
  have HI4' := Lib.hid hi4; clear hi4
  have HN' := Lib.hid hn; clear hn
  have HS' := Lib.hid hs; clear hs
  go_enter Tryd.func36, Tryd.ntmps36
  go_wp2_with fail
  refine (may_no H0.out wNothing (by decide) HI0'.out).mono ?_; rintro e w1 ⟨rfl, h1⟩
  have H1 := Lib.hid h1; clear h1
  go_wp2_with fail
  refine (may_no H1.out wPause (by decide) HI1'.out).mono ?_; rintro e w2 ⟨rfl, h2⟩
  have H2 := Lib.hid h2; clear h2
  go_wp2_with fail
  refine (may_no H2.out wHalt (by decide) HI2'.out).mono ?_; rintro e w3 ⟨rfl, h3⟩
  have H3 := Lib.hid h3; clear h3
  go_wp2_with fail
  refine (may_no H3.out wEmit (by decide) HI3'.out).mono ?_; rintro e w4 ⟨rfl, h4⟩
  have H4 := Lib.hid h4; clear h4
  go_wp2_with fail
  refine (may_yes H4.out wAwait (by decide) HI4'.out).mono ?_; rintro e w5 ⟨rfl, h5⟩
  have H5 := Lib.hid h5; clear h5
  go_wp2_with fail
  refine (HS'.out _ H5.out).mono ?_; rintro e w6 ⟨rfl, h6⟩
  have H6 := Lib.hid h6; clear h6
  go_wp2_with fail
  refine (put_full H6.out 4 y hl).mono ?_; rintro e w7 ⟨rfl, x7⟩
  go_wp2
  exact ⟨rfl, rfl, x7⟩
set_option maxHeartbeats 2000000 in
theorem node_sign5 {W0 : World} {g : Nat} {w : World} {s : List UInt8} {ps : List PNode} (h : RS W0 g w s ps) (hi0 : isP wNothing s = false) (hi1 : isP wPause s = false) (hi2 : isP wHalt s = false) (hi3 : isP wEmit s = false) (hi4 : isP wAwait s = false) (hi5 : isP wIf s = true) (hn : signP 120 (restP wIf s) = none) :
    Calls Tryd.prog 36 #[.pointer (some ⟨g, 0, none⟩)] w fun e w' => e = .panicked [broken] ∧ Ext W0 w' := by
  have hs := fun (Q : World) (hQ : RS W0 g Q (restP wIf s) ps) => sign120_any hQ
  rw [hn] at hs
  have H0 := Lib.hid h; clear h
  have HI0' := Lib.hid hi0; clear hi0
  have HI1' := Lib.hid hi1; clear hi1
  have HI2' := Lib.hid hi2; clear hi2
  have HI3' := Lib.hid hi3; clear hi3
  have HI4' := Lib.hid hi4; clear hi4
  have HI5' := Lib.hid hi5; clear hi5
  have HN' := Lib.hid hn; clear hn
  have HS' := Lib.hid hs; clear hs
  go_enter Tryd.func36, Tryd.ntmps36
  go_wp2_with fail
  refine (may_no H0.out wNothing (by decide) HI0'.out).mono ?_; rintro e w1 ⟨rfl, h1⟩
  have H1 := Lib.hid h1; clear h1
  go_wp2_with fail
  refine (may_no H1.out wPause (by decide) HI1'.out).mono ?_; rintro e w2 ⟨rfl, h2⟩
  have H2 := Lib.hid h2; clear h2
  go_wp2_with fail
  refine (may_no H2.out wHalt (by decide) HI2'.out).mono ?_; rintro e w3 ⟨rfl, h3⟩
  have H3 := Lib.hid h3; clear h3
  go_wp2_with fail
  refine (may_no H3.out wEmit (by decide) HI3'.out).mono ?_; rintro e w4 ⟨rfl, h4⟩
  have H4 := Lib.hid h4; clear h4
  go_wp2_with fail
  refine (may_no H4.out wAwait (by decide) HI4'.out).mono ?_; rintro e w5 ⟨rfl, h5⟩
  have H5 := Lib.hid h5; clear h5
  go_wp2_with fail
  refine (may_yes H5.out wIf (by decide) HI5'.out).mono ?_; rintro e w6 ⟨rfl, h6⟩
  have H6 := Lib.hid h6; clear h6
  go_wp2_with fail
  refine (HS'.out _ H6.out).mono ?_; rintro e w7 ⟨rfl, x7⟩
  go_wp2
  exact ⟨rfl, rfl, x7⟩
set_option maxHeartbeats 2000000 in
theorem node_full5 {W0 : World} {g : Nat} {w : World} {s : List UInt8} {ps : List PNode} (h : RS W0 g w s ps) (hl : ps.length = 14) (hi0 : isP wNothing s = false) (hi1 : isP wPause s = false) (hi2 : isP wHalt s = false) (hi3 : isP wEmit s = false) (hi4 : isP wAwait s = false) (hi5 : isP wIf s = true) {q : Int × List UInt8} (hn : signP 120 (restP wIf s) = some q) :
    Calls Tryd.prog 36 #[.pointer (some ⟨g, 0, none⟩)] w fun e w' => e = .panicked [broken] ∧ Ext W0 w' := by
  have hs := fun (Q : World) (hQ : RS W0 g Q (restP wIf s) ps) => sign120_any hQ
  rw [hn] at hs
  obtain ⟨y, r⟩ := q
  have H0 := Lib.hid h; clear h
  have HI0' := Lib.hid hi0; clear hi0
  have HI1' := Lib.hid hi1; clear hi1
  have HI2' := Lib.hid hi2; clear hi2
  have HI3' := Lib.hid hi3; clear hi3
  have HI4' := Lib.hid hi4; clear hi4
  have HI5' := Lib.hid hi5; clear hi5
  have HN' := Lib.hid hn; clear hn
  have HS' := Lib.hid hs; clear hs
  go_enter Tryd.func36, Tryd.ntmps36
  go_wp2_with fail
  refine (may_no H0.out wNothing (by decide) HI0'.out).mono ?_; rintro e w1 ⟨rfl, h1⟩
  have H1 := Lib.hid h1; clear h1
  go_wp2_with fail
  refine (may_no H1.out wPause (by decide) HI1'.out).mono ?_; rintro e w2 ⟨rfl, h2⟩
  have H2 := Lib.hid h2; clear h2
  go_wp2_with fail
  refine (may_no H2.out wHalt (by decide) HI2'.out).mono ?_; rintro e w3 ⟨rfl, h3⟩
  have H3 := Lib.hid h3; clear h3
  go_wp2_with fail
  refine (may_no H3.out wEmit (by decide) HI3'.out).mono ?_; rintro e w4 ⟨rfl, h4⟩
  have H4 := Lib.hid h4; clear h4
  go_wp2_with fail
  refine (may_no H4.out wAwait (by decide) HI4'.out).mono ?_; rintro e w5 ⟨rfl, h5⟩
  have H5 := Lib.hid h5; clear h5
  go_wp2_with fail
  refine (may_yes H5.out wIf (by decide) HI5'.out).mono ?_; rintro e w6 ⟨rfl, h6⟩
  have H6 := Lib.hid h6; clear h6
  go_wp2_with fail
  refine (HS'.out _ H6.out).mono ?_; rintro e w7 ⟨rfl, h7⟩
  have H7 := Lib.hid h7; clear h7
  go_wp2_with fail
  refine (put_full H7.out 7 y hl).mono ?_; rintro e w8 ⟨rfl, x8⟩
  go_wp2
  exact ⟨rfl, rfl, x8⟩
set_option maxHeartbeats 2000000 in
theorem node_sign6 {W0 : World} {g : Nat} {w : World} {s : List UInt8} {ps : List PNode} (h : RS W0 g w s ps) (hi0 : isP wNothing s = false) (hi1 : isP wPause s = false) (hi2 : isP wHalt s = false) (hi3 : isP wEmit s = false) (hi4 : isP wAwait s = false) (hi5 : isP wIf s = false) (hi6 : isP wWas s = true) (hn : signP 65 (restP wWas s) = none) :
    Calls Tryd.prog 36 #[.pointer (some ⟨g, 0, none⟩)] w fun e w' => e = .panicked [broken] ∧ Ext W0 w' := by
  have hs := fun (Q : World) (hQ : RS W0 g Q (restP wWas s) ps) => sign65_any hQ
  rw [hn] at hs
  have H0 := Lib.hid h; clear h
  have HI0' := Lib.hid hi0; clear hi0
  have HI1' := Lib.hid hi1; clear hi1
  have HI2' := Lib.hid hi2; clear hi2
  have HI3' := Lib.hid hi3; clear hi3
  have HI4' := Lib.hid hi4; clear hi4
  have HI5' := Lib.hid hi5; clear hi5
  have HI6' := Lib.hid hi6; clear hi6
  have HN' := Lib.hid hn; clear hn
  have HS' := Lib.hid hs; clear hs
  go_enter Tryd.func36, Tryd.ntmps36
  go_wp2_with fail
  refine (may_no H0.out wNothing (by decide) HI0'.out).mono ?_; rintro e w1 ⟨rfl, h1⟩
  have H1 := Lib.hid h1; clear h1
  go_wp2_with fail
  refine (may_no H1.out wPause (by decide) HI1'.out).mono ?_; rintro e w2 ⟨rfl, h2⟩
  have H2 := Lib.hid h2; clear h2
  go_wp2_with fail
  refine (may_no H2.out wHalt (by decide) HI2'.out).mono ?_; rintro e w3 ⟨rfl, h3⟩
  have H3 := Lib.hid h3; clear h3
  go_wp2_with fail
  refine (may_no H3.out wEmit (by decide) HI3'.out).mono ?_; rintro e w4 ⟨rfl, h4⟩
  have H4 := Lib.hid h4; clear h4
  go_wp2_with fail
  refine (may_no H4.out wAwait (by decide) HI4'.out).mono ?_; rintro e w5 ⟨rfl, h5⟩
  have H5 := Lib.hid h5; clear h5
  go_wp2_with fail
  refine (may_no H5.out wIf (by decide) HI5'.out).mono ?_; rintro e w6 ⟨rfl, h6⟩
  have H6 := Lib.hid h6; clear h6
  go_wp2_with fail
  refine (may_yes H6.out wWas (by decide) HI6'.out).mono ?_; rintro e w7 ⟨rfl, h7⟩
  have H7 := Lib.hid h7; clear h7
  go_wp2_with fail
  refine (HS'.out _ H7.out).mono ?_; rintro e w8 ⟨rfl, x8⟩
  go_wp2
  exact ⟨rfl, rfl, x8⟩
set_option maxHeartbeats 2000000 in
theorem node_full6 {W0 : World} {g : Nat} {w : World} {s : List UInt8} {ps : List PNode} (h : RS W0 g w s ps) (hl : ps.length = 14) (hi0 : isP wNothing s = false) (hi1 : isP wPause s = false) (hi2 : isP wHalt s = false) (hi3 : isP wEmit s = false) (hi4 : isP wAwait s = false) (hi5 : isP wIf s = false) (hi6 : isP wWas s = true) {q : Int × List UInt8} (hn : signP 65 (restP wWas s) = some q) :
    Calls Tryd.prog 36 #[.pointer (some ⟨g, 0, none⟩)] w fun e w' => e = .panicked [broken] ∧ Ext W0 w' := by
  have hs := fun (Q : World) (hQ : RS W0 g Q (restP wWas s) ps) => sign65_any hQ
  rw [hn] at hs
  obtain ⟨y, r⟩ := q
  have H0 := Lib.hid h; clear h
  have HI0' := Lib.hid hi0; clear hi0
  have HI1' := Lib.hid hi1; clear hi1
  have HI2' := Lib.hid hi2; clear hi2
  have HI3' := Lib.hid hi3; clear hi3
  have HI4' := Lib.hid hi4; clear hi4
  have HI5' := Lib.hid hi5; clear hi5
  have HI6' := Lib.hid hi6; clear hi6
  have HN' := Lib.hid hn; clear hn
  have HS' := Lib.hid hs; clear hs
  go_enter Tryd.func36, Tryd.ntmps36
  go_wp2_with fail
  refine (may_no H0.out wNothing (by decide) HI0'.out).mono ?_; rintro e w1 ⟨rfl, h1⟩
  have H1 := Lib.hid h1; clear h1
  go_wp2_with fail
  refine (may_no H1.out wPause (by decide) HI1'.out).mono ?_; rintro e w2 ⟨rfl, h2⟩
  have H2 := Lib.hid h2; clear h2
  go_wp2_with fail
  refine (may_no H2.out wHalt (by decide) HI2'.out).mono ?_; rintro e w3 ⟨rfl, h3⟩
  have H3 := Lib.hid h3; clear h3
  go_wp2_with fail
  refine (may_no H3.out wEmit (by decide) HI3'.out).mono ?_; rintro e w4 ⟨rfl, h4⟩
  have H4 := Lib.hid h4; clear h4
  go_wp2_with fail
  refine (may_no H4.out wAwait (by decide) HI4'.out).mono ?_; rintro e w5 ⟨rfl, h5⟩
  have H5 := Lib.hid h5; clear h5
  go_wp2_with fail
  refine (may_no H5.out wIf (by decide) HI5'.out).mono ?_; rintro e w6 ⟨rfl, h6⟩
  have H6 := Lib.hid h6; clear h6
  go_wp2_with fail
  refine (may_yes H6.out wWas (by decide) HI6'.out).mono ?_; rintro e w7 ⟨rfl, h7⟩
  have H7 := Lib.hid h7; clear h7
  go_wp2_with fail
  refine (HS'.out _ H7.out).mono ?_; rintro e w8 ⟨rfl, h8⟩
  have H8 := Lib.hid h8; clear h8
  go_wp2_with fail
  refine (put_full H8.out 8 y hl).mono ?_; rintro e w9 ⟨rfl, x9⟩
  go_wp2
  exact ⟨rfl, rfl, x9⟩
set_option maxHeartbeats 2000000 in
theorem node_full7 {W0 : World} {g : Nat} {w : World} {s : List UInt8} {ps : List PNode} (h : RS W0 g w s ps) (hl : ps.length = 14) (hi0 : isP wNothing s = false) (hi1 : isP wPause s = false) (hi2 : isP wHalt s = false) (hi3 : isP wEmit s = false) (hi4 : isP wAwait s = false) (hi5 : isP wIf s = false) (hi6 : isP wWas s = false) (hi7 : isP wOpen s = true) :
    Calls Tryd.prog 36 #[.pointer (some ⟨g, 0, none⟩)] w fun e w' => e = .panicked [broken] ∧ Ext W0 w' := by
  have H0 := Lib.hid h; clear h
  have HI0' := Lib.hid hi0; clear hi0
  have HI1' := Lib.hid hi1; clear hi1
  have HI2' := Lib.hid hi2; clear hi2
  have HI3' := Lib.hid hi3; clear hi3
  have HI4' := Lib.hid hi4; clear hi4
  have HI5' := Lib.hid hi5; clear hi5
  have HI6' := Lib.hid hi6; clear hi6
  have HI7' := Lib.hid hi7; clear hi7
  go_enter Tryd.func36, Tryd.ntmps36
  go_wp2_with fail
  refine (may_no H0.out wNothing (by decide) HI0'.out).mono ?_; rintro e w1 ⟨rfl, h1⟩
  have H1 := Lib.hid h1; clear h1
  go_wp2_with fail
  refine (may_no H1.out wPause (by decide) HI1'.out).mono ?_; rintro e w2 ⟨rfl, h2⟩
  have H2 := Lib.hid h2; clear h2
  go_wp2_with fail
  refine (may_no H2.out wHalt (by decide) HI2'.out).mono ?_; rintro e w3 ⟨rfl, h3⟩
  have H3 := Lib.hid h3; clear h3
  go_wp2_with fail
  refine (may_no H3.out wEmit (by decide) HI3'.out).mono ?_; rintro e w4 ⟨rfl, h4⟩
  have H4 := Lib.hid h4; clear h4
  go_wp2_with fail
  refine (may_no H4.out wAwait (by decide) HI4'.out).mono ?_; rintro e w5 ⟨rfl, h5⟩
  have H5 := Lib.hid h5; clear h5
  go_wp2_with fail
  refine (may_no H5.out wIf (by decide) HI5'.out).mono ?_; rintro e w6 ⟨rfl, h6⟩
  have H6 := Lib.hid h6; clear h6
  go_wp2_with fail
  refine (may_no H6.out wWas (by decide) HI6'.out).mono ?_; rintro e w7 ⟨rfl, h7⟩
  have H7 := Lib.hid h7; clear h7
  go_wp2_with fail
  refine (must_yes' H7.out wOpen (by decide) HI7'.out).mono ?_; rintro e w8 ⟨rfl, h8⟩
  have H8 := Lib.hid h8; clear h8
  go_wp2_with fail
  refine (put_full H8.out 5 0 hl).mono ?_; rintro e w9 ⟨rfl, x9⟩
  go_wp2
  exact ⟨rfl, rfl, x9⟩
set_option maxHeartbeats 2000000 in
theorem node_none {W0 : World} {g : Nat} {w : World} {s : List UInt8} {ps : List PNode} (h : RS W0 g w s ps) (hi0 : isP wNothing s = false) (hi1 : isP wPause s = false) (hi2 : isP wHalt s = false) (hi3 : isP wEmit s = false) (hi4 : isP wAwait s = false) (hi5 : isP wIf s = false) (hi6 : isP wWas s = false) (hi7 : isP wOpen s = false) :
    Calls Tryd.prog 36 #[.pointer (some ⟨g, 0, none⟩)] w fun e w' => e = .panicked [broken] ∧ Ext W0 w' := by
  have H0 := Lib.hid h; clear h
  have HI0' := Lib.hid hi0; clear hi0
  have HI1' := Lib.hid hi1; clear hi1
  have HI2' := Lib.hid hi2; clear hi2
  have HI3' := Lib.hid hi3; clear hi3
  have HI4' := Lib.hid hi4; clear hi4
  have HI5' := Lib.hid hi5; clear hi5
  have HI6' := Lib.hid hi6; clear hi6
  have HI7' := Lib.hid hi7; clear hi7
  go_enter Tryd.func36, Tryd.ntmps36
  go_wp2_with fail
  refine (may_no H0.out wNothing (by decide) HI0'.out).mono ?_; rintro e w1 ⟨rfl, h1⟩
  have H1 := Lib.hid h1; clear h1
  go_wp2_with fail
  refine (may_no H1.out wPause (by decide) HI1'.out).mono ?_; rintro e w2 ⟨rfl, h2⟩
  have H2 := Lib.hid h2; clear h2
  go_wp2_with fail
  refine (may_no H2.out wHalt (by decide) HI2'.out).mono ?_; rintro e w3 ⟨rfl, h3⟩
  have H3 := Lib.hid h3; clear h3
  go_wp2_with fail
  refine (may_no H3.out wEmit (by decide) HI3'.out).mono ?_; rintro e w4 ⟨rfl, h4⟩
  have H4 := Lib.hid h4; clear h4
  go_wp2_with fail
  refine (may_no H4.out wAwait (by decide) HI4'.out).mono ?_; rintro e w5 ⟨rfl, h5⟩
  have H5 := Lib.hid h5; clear h5
  go_wp2_with fail
  refine (may_no H5.out wIf (by decide) HI5'.out).mono ?_; rintro e w6 ⟨rfl, h6⟩
  have H6 := Lib.hid h6; clear h6
  go_wp2_with fail
  refine (may_no H6.out wWas (by decide) HI6'.out).mono ?_; rintro e w7 ⟨rfl, h7⟩
  have H7 := Lib.hid h7; clear h7
  go_wp2_with fail
  refine (must_no H7.out wOpen (by decide) HI7'.out).mono ?_; rintro e w8 ⟨rfl, x8⟩
  go_wp2
  exact ⟨rfl, rfl, x8⟩
set_option maxHeartbeats 2000000 in
theorem node_leaf0 {W0 : World} {g : Nat} {w : World} {s : List UInt8} {ps : List PNode} (h : RS W0 g w s ps) (hl : ps.length < 14) (hi0 : isP wNothing s = true) :
    Calls Tryd.prog 36 #[.pointer (some ⟨g, 0, none⟩)] w fun e w' => e = .returned (.tuple #[]) ∧ RS W0 g w' (restP wNothing s) (ps ++ [⟨0, 0⟩]) := by
  have H0 := Lib.hid h; clear h
  have HI0' := Lib.hid hi0; clear hi0
  go_enter Tryd.func36, Tryd.ntmps36
  go_wp2_with fail
  refine (may_yes H0.out wNothing (by decide) HI0'.out).mono ?_; rintro e w1 ⟨rfl, h1⟩
  have H1 := Lib.hid h1; clear h1
  go_wp2_with fail
  refine (put_ok H1.out 0 0 hl).mono ?_; rintro e w2 ⟨rfl, h2⟩
  have H2 := Lib.hid h2; clear h2
  go_wp2
  go_end0
  exact ⟨rfl, H2.out⟩
set_option maxHeartbeats 2000000 in
theorem node_leaf1 {W0 : World} {g : Nat} {w : World} {s : List UInt8} {ps : List PNode} (h : RS W0 g w s ps) (hl : ps.length < 14) (hi0 : isP wNothing s = false) (hi1 : isP wPause s = true) :
    Calls Tryd.prog 36 #[.pointer (some ⟨g, 0, none⟩)] w fun e w' => e = .returned (.tuple #[]) ∧ RS W0 g w' (restP wPause s) (ps ++ [⟨1, 0⟩]) := by
  have H0 := Lib.hid h; clear h
  have HI0' := Lib.hid hi0; clear hi0
  have HI1' := Lib.hid hi1; clear hi1
  go_enter Tryd.func36, Tryd.ntmps36
  go_wp2_with fail
  refine (may_no H0.out wNothing (by decide) HI0'.out).mono ?_; rintro e w1 ⟨rfl, h1⟩
  have H1 := Lib.hid h1; clear h1
  go_wp2_with fail
  refine (may_yes H1.out wPause (by decide) HI1'.out).mono ?_; rintro e w2 ⟨rfl, h2⟩
  have H2 := Lib.hid h2; clear h2
  go_wp2_with fail
  refine (put_ok H2.out 1 0 hl).mono ?_; rintro e w3 ⟨rfl, h3⟩
  have H3 := Lib.hid h3; clear h3
  go_wp2
  go_end0
  exact ⟨rfl, H3.out⟩
set_option maxHeartbeats 2000000 in
theorem node_leaf2 {W0 : World} {g : Nat} {w : World} {s : List UInt8} {ps : List PNode} (h : RS W0 g w s ps) (hl : ps.length < 14) (hi0 : isP wNothing s = false) (hi1 : isP wPause s = false) (hi2 : isP wHalt s = true) :
    Calls Tryd.prog 36 #[.pointer (some ⟨g, 0, none⟩)] w fun e w' => e = .returned (.tuple #[]) ∧ RS W0 g w' (restP wHalt s) (ps ++ [⟨2, 0⟩]) := by
  have H0 := Lib.hid h; clear h
  have HI0' := Lib.hid hi0; clear hi0
  have HI1' := Lib.hid hi1; clear hi1
  have HI2' := Lib.hid hi2; clear hi2
  go_enter Tryd.func36, Tryd.ntmps36
  go_wp2_with fail
  refine (may_no H0.out wNothing (by decide) HI0'.out).mono ?_; rintro e w1 ⟨rfl, h1⟩
  have H1 := Lib.hid h1; clear h1
  go_wp2_with fail
  refine (may_no H1.out wPause (by decide) HI1'.out).mono ?_; rintro e w2 ⟨rfl, h2⟩
  have H2 := Lib.hid h2; clear h2
  go_wp2_with fail
  refine (may_yes H2.out wHalt (by decide) HI2'.out).mono ?_; rintro e w3 ⟨rfl, h3⟩
  have H3 := Lib.hid h3; clear h3
  go_wp2_with fail
  refine (put_ok H3.out 2 0 hl).mono ?_; rintro e w4 ⟨rfl, h4⟩
  have H4 := Lib.hid h4; clear h4
  go_wp2
  go_end0
  exact ⟨rfl, H4.out⟩
set_option maxHeartbeats 2000000 in
theorem node_leaf3 {W0 : World} {g : Nat} {w : World} {s : List UInt8} {ps : List PNode} (h : RS W0 g w s ps) (hl : ps.length < 14) (hi0 : isP wNothing s = false) (hi1 : isP wPause s = false) (hi2 : isP wHalt s = false) (hi3 : isP wEmit s = true) {q : Int × List UInt8} (hn : signP 65 (restP wEmit s) = some q) :
    Calls Tryd.prog 36 #[.pointer (some ⟨g, 0, none⟩)] w fun e w' => e = .returned (.tuple #[]) ∧ RS W0 g w' q.2 (ps ++ [⟨3, q.1⟩]) := by
  have hs := fun (Q : World) (hQ : RS W0 g Q (restP wEmit s) ps) => sign65_any hQ
  rw [hn] at hs
  obtain ⟨y, r⟩ := q
  have H0 := Lib.hid h; clear h
  have HI0' := Lib.hid hi0; clear hi0
  have HI1' := Lib.hid hi1; clear hi1
  have HI2' := Lib.hid hi2; clear hi2
  have HI3' := Lib.hid hi3; clear hi3
  have HN' := Lib.hid hn; clear hn
  have HS' := Lib.hid hs; clear hs
  go_enter Tryd.func36, Tryd.ntmps36
  go_wp2_with fail
  refine (may_no H0.out wNothing (by decide) HI0'.out).mono ?_; rintro e w1 ⟨rfl, h1⟩
  have H1 := Lib.hid h1; clear h1
  go_wp2_with fail
  refine (may_no H1.out wPause (by decide) HI1'.out).mono ?_; rintro e w2 ⟨rfl, h2⟩
  have H2 := Lib.hid h2; clear h2
  go_wp2_with fail
  refine (may_no H2.out wHalt (by decide) HI2'.out).mono ?_; rintro e w3 ⟨rfl, h3⟩
  have H3 := Lib.hid h3; clear h3
  go_wp2_with fail
  refine (may_yes H3.out wEmit (by decide) HI3'.out).mono ?_; rintro e w4 ⟨rfl, h4⟩
  have H4 := Lib.hid h4; clear h4
  go_wp2_with fail
  refine (HS'.out _ H4.out).mono ?_; rintro e w5 ⟨rfl, h5⟩
  have H5 := Lib.hid h5; clear h5
  go_wp2_with fail
  refine (put_ok H5.out 3 y hl).mono ?_; rintro e w6 ⟨rfl, h6⟩
  have H6 := Lib.hid h6; clear h6
  go_wp2
  go_end0
  exact ⟨rfl, H6.out⟩
set_option maxHeartbeats 2000000 in
theorem node_leaf4 {W0 : World} {g : Nat} {w : World} {s : List UInt8} {ps : List PNode} (h : RS W0 g w s ps) (hl : ps.length < 14) (hi0 : isP wNothing s = false) (hi1 : isP wPause s = false) (hi2 : isP wHalt s = false) (hi3 : isP wEmit s = false) (hi4 : isP wAwait s = true) {q : Int × List UInt8} (hn : signP 120 (restP wAwait s) = some q) :
    Calls Tryd.prog 36 #[.pointer (some ⟨g, 0, none⟩)] w fun e w' => e = .returned (.tuple #[]) ∧ RS W0 g w' q.2 (ps ++ [⟨4, q.1⟩]) := by
  have hs := fun (Q : World) (hQ : RS W0 g Q (restP wAwait s) ps) => sign120_any hQ
  rw [hn] at hs
  obtain ⟨y, r⟩ := q
  have H0 := Lib.hid h; clear h
  have HI0' := Lib.hid hi0; clear hi0
  have HI1' := Lib.hid hi1; clear hi1
  have HI2' := Lib.hid hi2; clear hi2
  have HI3' := Lib.hid hi3; clear hi3
  have HI4' := Lib.hid hi4; clear hi4
  have HN' := Lib.hid hn; clear hn
  have HS' := Lib.hid hs; clear hs
  go_enter Tryd.func36, Tryd.ntmps36
  go_wp2_with fail
  refine (may_no H0.out wNothing (by decide) HI0'.out).mono ?_; rintro e w1 ⟨rfl, h1⟩
  have H1 := Lib.hid h1; clear h1
  go_wp2_with fail
  refine (may_no H1.out wPause (by decide) HI1'.out).mono ?_; rintro e w2 ⟨rfl, h2⟩
  have H2 := Lib.hid h2; clear h2
  go_wp2_with fail
  refine (may_no H2.out wHalt (by decide) HI2'.out).mono ?_; rintro e w3 ⟨rfl, h3⟩
  have H3 := Lib.hid h3; clear h3
  go_wp2_with fail
  refine (may_no H3.out wEmit (by decide) HI3'.out).mono ?_; rintro e w4 ⟨rfl, h4⟩
  have H4 := Lib.hid h4; clear h4
  go_wp2_with fail
  refine (may_yes H4.out wAwait (by decide) HI4'.out).mono ?_; rintro e w5 ⟨rfl, h5⟩
  have H5 := Lib.hid h5; clear h5
  go_wp2_with fail
  refine (HS'.out _ H5.out).mono ?_; rintro e w6 ⟨rfl, h6⟩
  have H6 := Lib.hid h6; clear h6
  go_wp2_with fail
  refine (put_ok H6.out 4 y hl).mono ?_; rintro e w7 ⟨rfl, h7⟩
  have H7 := Lib.hid h7; clear h7
  go_wp2
  go_end0
  exact ⟨rfl, H7.out⟩
set_option maxHeartbeats 2000000 in
theorem node_fork5 {W0 : World} {g : Nat} {w : World} {s : List UInt8} {ps : List PNode} (h : RS W0 g w s ps) {n l : Nat} (hN : NodeOK n) (hl : ps.length + (l + 1) = 14) (hln : l < n) (hi0 : isP wNothing s = false) (hi1 : isP wPause s = false) (hi2 : isP wHalt s = false) (hi3 : isP wEmit s = false) (hi4 : isP wAwait s = false) (hi5 : isP wIf s = true) {q : Int × List UInt8} (hn : signP 120 (restP wIf s) = some q) {f : Tr × List UInt8} (hf : forkT (readT n) l ⟨7, q.1⟩ q.2 = some f) :
    Calls Tryd.prog 36 #[.pointer (some ⟨g, 0, none⟩)] w fun e w' => e = .returned (.tuple #[]) ∧ RS W0 g w' f.2 (ps ++ f.1.flat) := by
  have hs := fun (Q : World) (hQ : RS W0 g Q (restP wIf s) ps) => sign120_any hQ
  rw [hn] at hs
  obtain ⟨y, r⟩ := q
  have hk := fun (Q : World) (hQ : RS W0 g Q r (ps ++ [⟨7, y⟩])) => fork_any hN hQ (left := l) (by simp; omega) hln ⟨7, y⟩
  rw [hf] at hk
  have H0 := Lib.hid h; clear h
  have HI0' := Lib.hid hi0; clear hi0
  have HI1' := Lib.hid hi1; clear hi1
  have HI2' := Lib.hid hi2; clear hi2
  have HI3' := Lib.hid hi3; clear hi3
  have HI4' := Lib.hid hi4; clear hi4
  have HI5' := Lib.hid hi5; clear hi5
  have HN' := Lib.hid hn; clear hn
  have HS' := Lib.hid hs; clear hs
  have HK' := Lib.hid hk; clear hk
  have HN' := Lib.hid hN; clear hN
  have HF' := Lib.hid hf; clear hf
  go_enter Tryd.func36, Tryd.ntmps36
  go_wp2_with fail
  refine (may_no H0.out wNothing (by decide) HI0'.out).mono ?_; rintro e w1 ⟨rfl, h1⟩
  have H1 := Lib.hid h1; clear h1
  go_wp2_with fail
  refine (may_no H1.out wPause (by decide) HI1'.out).mono ?_; rintro e w2 ⟨rfl, h2⟩
  have H2 := Lib.hid h2; clear h2
  go_wp2_with fail
  refine (may_no H2.out wHalt (by decide) HI2'.out).mono ?_; rintro e w3 ⟨rfl, h3⟩
  have H3 := Lib.hid h3; clear h3
  go_wp2_with fail
  refine (may_no H3.out wEmit (by decide) HI3'.out).mono ?_; rintro e w4 ⟨rfl, h4⟩
  have H4 := Lib.hid h4; clear h4
  go_wp2_with fail
  refine (may_no H4.out wAwait (by decide) HI4'.out).mono ?_; rintro e w5 ⟨rfl, h5⟩
  have H5 := Lib.hid h5; clear h5
  go_wp2_with fail
  refine (may_yes H5.out wIf (by decide) HI5'.out).mono ?_; rintro e w6 ⟨rfl, h6⟩
  have H6 := Lib.hid h6; clear h6
  go_wp2_with fail
  refine (HS'.out _ H6.out).mono ?_; rintro e w7 ⟨rfl, h7⟩
  have H7 := Lib.hid h7; clear h7
  go_wp2_with fail
  refine (put_ok H7.out 7 y (by omega)).mono ?_; rintro e w8 ⟨rfl, h8⟩
  have H8 := Lib.hid h8; clear h8
  go_wp2_with fail
  refine (HK'.out _ H8.out).mono ?_; rintro e wz ⟨a, b, hq, rfl, hz⟩
  go_wp2
  go_end0
  exact ⟨rfl, by rw [hq, flat_two]; simpa using hz⟩
set_option maxHeartbeats 2000000 in
theorem node_forkno5 {W0 : World} {g : Nat} {w : World} {s : List UInt8} {ps : List PNode} (h : RS W0 g w s ps) {n l : Nat} (hN : NodeOK n) (hl : ps.length + (l + 1) = 14) (hln : l < n) (hi0 : isP wNothing s = false) (hi1 : isP wPause s = false) (hi2 : isP wHalt s = false) (hi3 : isP wEmit s = false) (hi4 : isP wAwait s = false) (hi5 : isP wIf s = true) {q : Int × List UInt8} (hn : signP 120 (restP wIf s) = some q) (hf : forkT (readT n) l ⟨7, q.1⟩ q.2 = none) :
    Calls Tryd.prog 36 #[.pointer (some ⟨g, 0, none⟩)] w fun e w' => e = .panicked [broken] ∧ Ext W0 w' := by
  have hs := fun (Q : World) (hQ : RS W0 g Q (restP wIf s) ps) => sign120_any hQ
  rw [hn] at hs
  obtain ⟨y, r⟩ := q
  have hk := fun (Q : World) (hQ : RS W0 g Q r (ps ++ [⟨7, y⟩])) => fork_any hN hQ (left := l) (by simp; omega) hln ⟨7, y⟩
  rw [hf] at hk
  have H0 := Lib.hid h; clear h
  have HI0' := Lib.hid hi0; clear hi0
  have HI1' := Lib.hid hi1; clear hi1
  have HI2' := Lib.hid hi2; clear hi2
  have HI3' := Lib.hid hi3; clear hi3
  have HI4' := Lib.hid hi4; clear hi4
  have HI5' := Lib.hid hi5; clear hi5
  have HN' := Lib.hid hn; clear hn
  have HS' := Lib.hid hs; clear hs
  have HK' := Lib.hid hk; clear hk
  have HN' := Lib.hid hN; clear hN
  have HF' := Lib.hid hf; clear hf
  go_enter Tryd.func36, Tryd.ntmps36
  go_wp2_with fail
  refine (may_no H0.out wNothing (by decide) HI0'.out).mono ?_; rintro e w1 ⟨rfl, h1⟩
  have H1 := Lib.hid h1; clear h1
  go_wp2_with fail
  refine (may_no H1.out wPause (by decide) HI1'.out).mono ?_; rintro e w2 ⟨rfl, h2⟩
  have H2 := Lib.hid h2; clear h2
  go_wp2_with fail
  refine (may_no H2.out wHalt (by decide) HI2'.out).mono ?_; rintro e w3 ⟨rfl, h3⟩
  have H3 := Lib.hid h3; clear h3
  go_wp2_with fail
  refine (may_no H3.out wEmit (by decide) HI3'.out).mono ?_; rintro e w4 ⟨rfl, h4⟩
  have H4 := Lib.hid h4; clear h4
  go_wp2_with fail
  refine (may_no H4.out wAwait (by decide) HI4'.out).mono ?_; rintro e w5 ⟨rfl, h5⟩
  have H5 := Lib.hid h5; clear h5
  go_wp2_with fail
  refine (may_yes H5.out wIf (by decide) HI5'.out).mono ?_; rintro e w6 ⟨rfl, h6⟩
  have H6 := Lib.hid h6; clear h6
  go_wp2_with fail
  refine (HS'.out _ H6.out).mono ?_; rintro e w7 ⟨rfl, h7⟩
  have H7 := Lib.hid h7; clear h7
  go_wp2_with fail
  refine (put_ok H7.out 7 y (by omega)).mono ?_; rintro e w8 ⟨rfl, h8⟩
  have H8 := Lib.hid h8; clear h8
  go_wp2_with fail
  refine (HK'.out _ H8.out).mono ?_; rintro e w9 ⟨rfl, x9⟩
  go_wp2
  exact ⟨rfl, rfl, x9⟩
set_option maxHeartbeats 2000000 in
theorem node_fork6 {W0 : World} {g : Nat} {w : World} {s : List UInt8} {ps : List PNode} (h : RS W0 g w s ps) {n l : Nat} (hN : NodeOK n) (hl : ps.length + (l + 1) = 14) (hln : l < n) (hi0 : isP wNothing s = false) (hi1 : isP wPause s = false) (hi2 : isP wHalt s = false) (hi3 : isP wEmit s = false) (hi4 : isP wAwait s = false) (hi5 : isP wIf s = false) (hi6 : isP wWas s = true) {q : Int × List UInt8} (hn : signP 65 (restP wWas s) = some q) {f : Tr × List UInt8} (hf : forkT (readT n) l ⟨8, q.1⟩ q.2 = some f) :
    Calls Tryd.prog 36 #[.pointer (some ⟨g, 0, none⟩)] w fun e w' => e = .returned (.tuple #[]) ∧ RS W0 g w' f.2 (ps ++ f.1.flat) := by
  have hs := fun (Q : World) (hQ : RS W0 g Q (restP wWas s) ps) => sign65_any hQ
  rw [hn] at hs
  obtain ⟨y, r⟩ := q
  have hk := fun (Q : World) (hQ : RS W0 g Q r (ps ++ [⟨8, y⟩])) => fork_any hN hQ (left := l) (by simp; omega) hln ⟨8, y⟩
  rw [hf] at hk
  have H0 := Lib.hid h; clear h
  have HI0' := Lib.hid hi0; clear hi0
  have HI1' := Lib.hid hi1; clear hi1
  have HI2' := Lib.hid hi2; clear hi2
  have HI3' := Lib.hid hi3; clear hi3
  have HI4' := Lib.hid hi4; clear hi4
  have HI5' := Lib.hid hi5; clear hi5
  have HI6' := Lib.hid hi6; clear hi6
  have HN' := Lib.hid hn; clear hn
  have HS' := Lib.hid hs; clear hs
  have HK' := Lib.hid hk; clear hk
  have HN' := Lib.hid hN; clear hN
  have HF' := Lib.hid hf; clear hf
  go_enter Tryd.func36, Tryd.ntmps36
  go_wp2_with fail
  refine (may_no H0.out wNothing (by decide) HI0'.out).mono ?_; rintro e w1 ⟨rfl, h1⟩
  have H1 := Lib.hid h1; clear h1
  go_wp2_with fail
  refine (may_no H1.out wPause (by decide) HI1'.out).mono ?_; rintro e w2 ⟨rfl, h2⟩
  have H2 := Lib.hid h2; clear h2
  go_wp2_with fail
  refine (may_no H2.out wHalt (by decide) HI2'.out).mono ?_; rintro e w3 ⟨rfl, h3⟩
  have H3 := Lib.hid h3; clear h3
  go_wp2_with fail
  refine (may_no H3.out wEmit (by decide) HI3'.out).mono ?_; rintro e w4 ⟨rfl, h4⟩
  have H4 := Lib.hid h4; clear h4
  go_wp2_with fail
  refine (may_no H4.out wAwait (by decide) HI4'.out).mono ?_; rintro e w5 ⟨rfl, h5⟩
  have H5 := Lib.hid h5; clear h5
  go_wp2_with fail
  refine (may_no H5.out wIf (by decide) HI5'.out).mono ?_; rintro e w6 ⟨rfl, h6⟩
  have H6 := Lib.hid h6; clear h6
  go_wp2_with fail
  refine (may_yes H6.out wWas (by decide) HI6'.out).mono ?_; rintro e w7 ⟨rfl, h7⟩
  have H7 := Lib.hid h7; clear h7
  go_wp2_with fail
  refine (HS'.out _ H7.out).mono ?_; rintro e w8 ⟨rfl, h8⟩
  have H8 := Lib.hid h8; clear h8
  go_wp2_with fail
  refine (put_ok H8.out 8 y (by omega)).mono ?_; rintro e w9 ⟨rfl, h9⟩
  have H9 := Lib.hid h9; clear h9
  go_wp2_with fail
  refine (HK'.out _ H9.out).mono ?_; rintro e wz ⟨a, b, hq, rfl, hz⟩
  go_wp2
  go_end0
  exact ⟨rfl, by rw [hq, flat_two]; simpa using hz⟩
set_option maxHeartbeats 2000000 in
theorem node_forkno6 {W0 : World} {g : Nat} {w : World} {s : List UInt8} {ps : List PNode} (h : RS W0 g w s ps) {n l : Nat} (hN : NodeOK n) (hl : ps.length + (l + 1) = 14) (hln : l < n) (hi0 : isP wNothing s = false) (hi1 : isP wPause s = false) (hi2 : isP wHalt s = false) (hi3 : isP wEmit s = false) (hi4 : isP wAwait s = false) (hi5 : isP wIf s = false) (hi6 : isP wWas s = true) {q : Int × List UInt8} (hn : signP 65 (restP wWas s) = some q) (hf : forkT (readT n) l ⟨8, q.1⟩ q.2 = none) :
    Calls Tryd.prog 36 #[.pointer (some ⟨g, 0, none⟩)] w fun e w' => e = .panicked [broken] ∧ Ext W0 w' := by
  have hs := fun (Q : World) (hQ : RS W0 g Q (restP wWas s) ps) => sign65_any hQ
  rw [hn] at hs
  obtain ⟨y, r⟩ := q
  have hk := fun (Q : World) (hQ : RS W0 g Q r (ps ++ [⟨8, y⟩])) => fork_any hN hQ (left := l) (by simp; omega) hln ⟨8, y⟩
  rw [hf] at hk
  have H0 := Lib.hid h; clear h
  have HI0' := Lib.hid hi0; clear hi0
  have HI1' := Lib.hid hi1; clear hi1
  have HI2' := Lib.hid hi2; clear hi2
  have HI3' := Lib.hid hi3; clear hi3
  have HI4' := Lib.hid hi4; clear hi4
  have HI5' := Lib.hid hi5; clear hi5
  have HI6' := Lib.hid hi6; clear hi6
  have HN' := Lib.hid hn; clear hn
  have HS' := Lib.hid hs; clear hs
  have HK' := Lib.hid hk; clear hk
  have HN' := Lib.hid hN; clear hN
  have HF' := Lib.hid hf; clear hf
  go_enter Tryd.func36, Tryd.ntmps36
  go_wp2_with fail
  refine (may_no H0.out wNothing (by decide) HI0'.out).mono ?_; rintro e w1 ⟨rfl, h1⟩
  have H1 := Lib.hid h1; clear h1
  go_wp2_with fail
  refine (may_no H1.out wPause (by decide) HI1'.out).mono ?_; rintro e w2 ⟨rfl, h2⟩
  have H2 := Lib.hid h2; clear h2
  go_wp2_with fail
  refine (may_no H2.out wHalt (by decide) HI2'.out).mono ?_; rintro e w3 ⟨rfl, h3⟩
  have H3 := Lib.hid h3; clear h3
  go_wp2_with fail
  refine (may_no H3.out wEmit (by decide) HI3'.out).mono ?_; rintro e w4 ⟨rfl, h4⟩
  have H4 := Lib.hid h4; clear h4
  go_wp2_with fail
  refine (may_no H4.out wAwait (by decide) HI4'.out).mono ?_; rintro e w5 ⟨rfl, h5⟩
  have H5 := Lib.hid h5; clear h5
  go_wp2_with fail
  refine (may_no H5.out wIf (by decide) HI5'.out).mono ?_; rintro e w6 ⟨rfl, h6⟩
  have H6 := Lib.hid h6; clear h6
  go_wp2_with fail
  refine (may_yes H6.out wWas (by decide) HI6'.out).mono ?_; rintro e w7 ⟨rfl, h7⟩
  have H7 := Lib.hid h7; clear h7
  go_wp2_with fail
  refine (HS'.out _ H7.out).mono ?_; rintro e w8 ⟨rfl, h8⟩
  have H8 := Lib.hid h8; clear h8
  go_wp2_with fail
  refine (put_ok H8.out 8 y (by omega)).mono ?_; rintro e w9 ⟨rfl, h9⟩
  have H9 := Lib.hid h9; clear h9
  go_wp2_with fail
  refine (HK'.out _ H9.out).mono ?_; rintro e w10 ⟨rfl, x10⟩
  go_wp2
  exact ⟨rfl, rfl, x10⟩
set_option maxHeartbeats 2000000 in
theorem open_a {W0 : World} {g : Nat} {w : World} {s : List UInt8} {ps : List PNode} (h : RS W0 g w s ps) {n l : Nat} (hN : NodeOK n) (hl : ps.length + (l + 1) = 14) (hln : l < n) (hi0 : isP wNothing s = false) (hi1 : isP wPause s = false) (hi2 : isP wHalt s = false) (hi3 : isP wEmit s = false) (hi4 : isP wAwait s = false) (hi5 : isP wIf s = false) (hi6 : isP wWas s = false) (hi7 : isP wOpen s = true) (ha : readT n l (restP wOpen s) = none) :
    Calls Tryd.prog 36 #[.pointer (some ⟨g, 0, none⟩)] w fun e w' => e = .panicked [broken] ∧ Ext W0 w' := by
  have hl1 : (ps ++ [(⟨5, 0⟩ : PNode)]).length + l = 14 := by simp; omega
  have H0 := Lib.hid h; clear h
  have HI0' := Lib.hid hi0; clear hi0
  have HI1' := Lib.hid hi1; clear hi1
  have HI2' := Lib.hid hi2; clear hi2
  have HI3' := Lib.hid hi3; clear hi3
  have HI4' := Lib.hid hi4; clear hi4
  have HI5' := Lib.hid hi5; clear hi5
  have HI6' := Lib.hid hi6; clear hi6
  have HI7' := Lib.hid hi7; clear hi7
  have HN' := Lib.hid hN; clear hN
  have HA' := Lib.hid ha; clear ha
  have HL1' := Lib.hid hl1; clear hl1
  go_enter Tryd.func36, Tryd.ntmps36
  go_wp2_with fail
  refine (may_no H0.out wNothing (by decide) HI0'.out).mono ?_; rintro e w1 ⟨rfl, h1⟩
  have H1 := Lib.hid h1; clear h1
  go_wp2_with fail
  refine (may_no H1.out wPause (by decide) HI1'.out).mono ?_; rintro e w2 ⟨rfl, h2⟩
  have H2 := Lib.hid h2; clear h2
  go_wp2_with fail
  refine (may_no H2.out wHalt (by decide) HI2'.out).mono ?_; rintro e w3 ⟨rfl, h3⟩
  have H3 := Lib.hid h3; clear h3
  go_wp2_with fail
  refine (may_no H3.out wEmit (by decide) HI3'.out).mono ?_; rintro e w4 ⟨rfl, h4⟩
  have H4 := Lib.hid h4; clear h4
  go_wp2_with fail
  refine (may_no H4.out wAwait (by decide) HI4'.out).mono ?_; rintro e w5 ⟨rfl, h5⟩
  have H5 := Lib.hid h5; clear h5
  go_wp2_with fail
  refine (may_no H5.out wIf (by decide) HI5'.out).mono ?_; rintro e w6 ⟨rfl, h6⟩
  have H6 := Lib.hid h6; clear h6
  go_wp2_with fail
  refine (may_no H6.out wWas (by decide) HI6'.out).mono ?_; rintro e w7 ⟨rfl, h7⟩
  have H7 := Lib.hid h7; clear h7
  go_wp2_with fail
  refine (must_yes' H7.out wOpen (by decide) HI7'.out).mono ?_; rintro e w8 ⟨rfl, h8⟩
  have H8 := Lib.hid h8; clear h8
  go_wp2_with fail
  refine (put_ok H8.out 5 0 (by omega)).mono ?_; rintro e w9 ⟨rfl, h9⟩
  have H9 := Lib.hid h9; clear h9
  go_wp2_with fail
  refine (HN'.out.no H9.out HL1'.out hln HA'.out).mono ?_; rintro e w10 ⟨rfl, x10⟩
  go_wp2
  exact ⟨rfl, rfl, x10⟩
set_option maxHeartbeats 2000000 in
theorem open_nosemi {W0 : World} {g : Nat} {w : World} {s : List UInt8} {ps : List PNode} (h : RS W0 g w s ps) {n l : Nat} (hN : NodeOK n) (hl : ps.length + (l + 1) = 14) (hln : l < n) (hi0 : isP wNothing s = false) (hi1 : isP wPause s = false) (hi2 : isP wHalt s = false) (hi3 : isP wEmit s = false) (hi4 : isP wAwait s = false) (hi5 : isP wIf s = false) (hi6 : isP wWas s = false) (hi7 : isP wOpen s = true) {qa : Tr × List UInt8} (ha : readT n l (restP wOpen s) = some qa) (hb : isP wBar qa.2 = false) (hm : isP wSemi qa.2 = false) :
    Calls Tryd.prog 36 #[.pointer (some ⟨g, 0, none⟩)] w fun e w' => e = .panicked [broken] ∧ Ext W0 w' := by
  have hl1 : (ps ++ [(⟨5, 0⟩ : PNode)]).length + l = 14 := by simp; omega
  have hl2 : ((ps ++ [(⟨5, 0⟩ : PNode)]) ++ qa.1.flat).length + (l - qa.1.size) = 14 := by have := read_small (t := qa.1) (r := qa.2) ha; simp [flat_size]; omega
  have hl3 : l - qa.1.size < n := by omega
  have H0 := Lib.hid h; clear h
  have HM' := Lib.hid hm; clear hm
  have HI0' := Lib.hid hi0; clear hi0
  have HI1' := Lib.hid hi1; clear hi1
  have HI2' := Lib.hid hi2; clear hi2
  have HI3' := Lib.hid hi3; clear hi3
  have HI4' := Lib.hid hi4; clear hi4
  have HI5' := Lib.hid hi5; clear hi5
  have HI6' := Lib.hid hi6; clear hi6
  have HI7' := Lib.hid hi7; clear hi7
  have HN' := Lib.hid hN; clear hN
  have HA' := Lib.hid ha; clear ha
  have HB' := Lib.hid hb; clear hb
  have HL1' := Lib.hid hl1; clear hl1
  have HL2' := Lib.hid hl2; clear hl2
  go_enter Tryd.func36, Tryd.ntmps36
  go_wp2_with fail
  refine (may_no H0.out wNothing (by decide) HI0'.out).mono ?_; rintro e w1 ⟨rfl, h1⟩
  have H1 := Lib.hid h1; clear h1
  go_wp2_with fail
  refine (may_no H1.out wPause (by decide) HI1'.out).mono ?_; rintro e w2 ⟨rfl, h2⟩
  have H2 := Lib.hid h2; clear h2
  go_wp2_with fail
  refine (may_no H2.out wHalt (by decide) HI2'.out).mono ?_; rintro e w3 ⟨rfl, h3⟩
  have H3 := Lib.hid h3; clear h3
  go_wp2_with fail
  refine (may_no H3.out wEmit (by decide) HI3'.out).mono ?_; rintro e w4 ⟨rfl, h4⟩
  have H4 := Lib.hid h4; clear h4
  go_wp2_with fail
  refine (may_no H4.out wAwait (by decide) HI4'.out).mono ?_; rintro e w5 ⟨rfl, h5⟩
  have H5 := Lib.hid h5; clear h5
  go_wp2_with fail
  refine (may_no H5.out wIf (by decide) HI5'.out).mono ?_; rintro e w6 ⟨rfl, h6⟩
  have H6 := Lib.hid h6; clear h6
  go_wp2_with fail
  refine (may_no H6.out wWas (by decide) HI6'.out).mono ?_; rintro e w7 ⟨rfl, h7⟩
  have H7 := Lib.hid h7; clear h7
  go_wp2_with fail
  refine (must_yes' H7.out wOpen (by decide) HI7'.out).mono ?_; rintro e w8 ⟨rfl, h8⟩
  have H8 := Lib.hid h8; clear h8
  go_wp2_with fail
  refine (put_ok H8.out 5 0 (by omega)).mono ?_; rintro e w9 ⟨rfl, h9⟩
  have H9 := Lib.hid h9; clear h9
  go_wp2_with fail
  refine (HN'.out.yes H9.out HL1'.out hln HA'.out).mono ?_; rintro e w10 ⟨rfl, h10⟩
  have H10 := Lib.hid h10; clear h10
  go_wp2_with fail
  refine (may_no H10.out wBar (by decide) HB'.out).mono ?_; rintro e w11 ⟨rfl, h11⟩
  have H11 := Lib.hid h11; clear h11
  go_wp2_with fail
  refine (must_no H11.out wSemi (by decide) HM'.out).mono ?_; rintro e w12 ⟨rfl, x12⟩
  go_wp2
  exact ⟨rfl, rfl, x12⟩
set_option maxHeartbeats 2000000 in
theorem open_bar_b {W0 : World} {g : Nat} {w : World} {s : List UInt8} {ps : List PNode} (h : RS W0 g w s ps) {n l : Nat} (hN : NodeOK n) (hl : ps.length + (l + 1) = 14) (hln : l < n) (hi0 : isP wNothing s = false) (hi1 : isP wPause s = false) (hi2 : isP wHalt s = false) (hi3 : isP wEmit s = false) (hi4 : isP wAwait s = false) (hi5 : isP wIf s = false) (hi6 : isP wWas s = false) (hi7 : isP wOpen s = true) {qa : Tr × List UInt8} (ha : readT n l (restP wOpen s) = some qa) (hb : isP wBar qa.2 = true) (hc : readT n (l - qa.1.size) (restP wBar qa.2) = none) :
    Calls Tryd.prog 36 #[.pointer (some ⟨g, 0, none⟩)] w fun e w' => e = .panicked [broken] ∧ Ext W0 w' := by
  have hl1 : (ps ++ [(⟨5, 0⟩ : PNode)]).length + l = 14 := by simp; omega
  have hl2 : ((ps ++ [(⟨5, 0⟩ : PNode)]) ++ qa.1.flat).length + (l - qa.1.size) = 14 := by have := read_small (t := qa.1) (r := qa.2) ha; simp [flat_size]; omega
  have hl3 : l - qa.1.size < n := by omega
  have H0 := Lib.hid h; clear h
  have HI0' := Lib.hid hi0; clear hi0
  have HI1' := Lib.hid hi1; clear hi1
  have HI2' := Lib.hid hi2; clear hi2
  have HI3' := Lib.hid hi3; clear hi3
  have HI4' := Lib.hid hi4; clear hi4
  have HI5' := Lib.hid hi5; clear hi5
  have HI6' := Lib.hid hi6; clear hi6
  have HI7' := Lib.hid hi7; clear hi7
  have HN' := Lib.hid hN; clear hN
  have HA' := Lib.hid ha; clear ha
  have HB' := Lib.hid hb; clear hb
  have HL1' := Lib.hid hl1; clear hl1
  have HL2' := Lib.hid hl2; clear hl2
  have HC' := Lib.hid hc; clear hc
  go_enter Tryd.func36, Tryd.ntmps36
  go_wp2_with fail
  refine (may_no H0.out wNothing (by decide) HI0'.out).mono ?_; rintro e w1 ⟨rfl, h1⟩
  have H1 := Lib.hid h1; clear h1
  go_wp2_with fail
  refine (may_no H1.out wPause (by decide) HI1'.out).mono ?_; rintro e w2 ⟨rfl, h2⟩
  have H2 := Lib.hid h2; clear h2
  go_wp2_with fail
  refine (may_no H2.out wHalt (by decide) HI2'.out).mono ?_; rintro e w3 ⟨rfl, h3⟩
  have H3 := Lib.hid h3; clear h3
  go_wp2_with fail
  refine (may_no H3.out wEmit (by decide) HI3'.out).mono ?_; rintro e w4 ⟨rfl, h4⟩
  have H4 := Lib.hid h4; clear h4
  go_wp2_with fail
  refine (may_no H4.out wAwait (by decide) HI4'.out).mono ?_; rintro e w5 ⟨rfl, h5⟩
  have H5 := Lib.hid h5; clear h5
  go_wp2_with fail
  refine (may_no H5.out wIf (by decide) HI5'.out).mono ?_; rintro e w6 ⟨rfl, h6⟩
  have H6 := Lib.hid h6; clear h6
  go_wp2_with fail
  refine (may_no H6.out wWas (by decide) HI6'.out).mono ?_; rintro e w7 ⟨rfl, h7⟩
  have H7 := Lib.hid h7; clear h7
  go_wp2_with fail
  refine (must_yes' H7.out wOpen (by decide) HI7'.out).mono ?_; rintro e w8 ⟨rfl, h8⟩
  have H8 := Lib.hid h8; clear h8
  go_wp2_with fail
  refine (put_ok H8.out 5 0 (by omega)).mono ?_; rintro e w9 ⟨rfl, h9⟩
  have H9 := Lib.hid h9; clear h9
  go_wp2_with fail
  refine (HN'.out.yes H9.out HL1'.out hln HA'.out).mono ?_; rintro e w10 ⟨rfl, h10⟩
  have H10 := Lib.hid h10; clear h10
  go_wp2_with fail
  refine (may_yes H10.out wBar (by decide) HB'.out).mono ?_; rintro e w11 ⟨rfl, h11⟩
  rw [List.append_assoc] at h11
  obtain ⟨bk, ck, k1, k2, k3, h12⟩ := h11.kind 6
  have hk0 := (ps.length : Nat)
  have H12 := Lib.hid h12; clear h12 h11
  go_wp2_with fail
  clear k1 k2 k3
  have HL4 : Hid ((ps ++ (⟨6, 0⟩ : PNode) :: qa.1.flat).length + (l - qa.1.size) = 14) := by have := HL2'.out; unfold Hid; simpa using this
  refine (HN'.out.no H12.out HL4.out hl3 HC'.out).mono ?_; rintro e w13 ⟨rfl, x13⟩
  go_wp2
  exact ⟨rfl, rfl, x13⟩
set_option maxHeartbeats 2000000 in
theorem open_bar_e {W0 : World} {g : Nat} {w : World} {s : List UInt8} {ps : List PNode} (h : RS W0 g w s ps) {n l : Nat} (hN : NodeOK n) (hl : ps.length + (l + 1) = 14) (hln : l < n) (hi0 : isP wNothing s = false) (hi1 : isP wPause s = false) (hi2 : isP wHalt s = false) (hi3 : isP wEmit s = false) (hi4 : isP wAwait s = false) (hi5 : isP wIf s = false) (hi6 : isP wWas s = false) (hi7 : isP wOpen s = true) {qa : Tr × List UInt8} (ha : readT n l (restP wOpen s) = some qa) (hb : isP wBar qa.2 = true) {qb : Tr × List UInt8} (hc : readT n (l - qa.1.size) (restP wBar qa.2) = some qb) (hd : isP wClose qb.2 = false) :
    Calls Tryd.prog 36 #[.pointer (some ⟨g, 0, none⟩)] w fun e w' => e = .panicked [broken] ∧ Ext W0 w' := by
  have hl1 : (ps ++ [(⟨5, 0⟩ : PNode)]).length + l = 14 := by simp; omega
  have hl2 : ((ps ++ [(⟨5, 0⟩ : PNode)]) ++ qa.1.flat).length + (l - qa.1.size) = 14 := by have := read_small (t := qa.1) (r := qa.2) ha; simp [flat_size]; omega
  have hl3 : l - qa.1.size < n := by omega
  have H0 := Lib.hid h; clear h
  have HI0' := Lib.hid hi0; clear hi0
  have HI1' := Lib.hid hi1; clear hi1
  have HI2' := Lib.hid hi2; clear hi2
  have HI3' := Lib.hid hi3; clear hi3
  have HI4' := Lib.hid hi4; clear hi4
  have HI5' := Lib.hid hi5; clear hi5
  have HI6' := Lib.hid hi6; clear hi6
  have HI7' := Lib.hid hi7; clear hi7
  have HN' := Lib.hid hN; clear hN
  have HA' := Lib.hid ha; clear ha
  have HB' := Lib.hid hb; clear hb
  have HL1' := Lib.hid hl1; clear hl1
  have HL2' := Lib.hid hl2; clear hl2
  have HC' := Lib.hid hc; clear hc
  have HD' := Lib.hid hd; clear hd
  go_enter Tryd.func36, Tryd.ntmps36
  go_wp2_with fail
  refine (may_no H0.out wNothing (by decide) HI0'.out).mono ?_; rintro e w1 ⟨rfl, h1⟩
  have H1 := Lib.hid h1; clear h1
  go_wp2_with fail
  refine (may_no H1.out wPause (by decide) HI1'.out).mono ?_; rintro e w2 ⟨rfl, h2⟩
  have H2 := Lib.hid h2; clear h2
  go_wp2_with fail
  refine (may_no H2.out wHalt (by decide) HI2'.out).mono ?_; rintro e w3 ⟨rfl, h3⟩
  have H3 := Lib.hid h3; clear h3
  go_wp2_with fail
  refine (may_no H3.out wEmit (by decide) HI3'.out).mono ?_; rintro e w4 ⟨rfl, h4⟩
  have H4 := Lib.hid h4; clear h4
  go_wp2_with fail
  refine (may_no H4.out wAwait (by decide) HI4'.out).mono ?_; rintro e w5 ⟨rfl, h5⟩
  have H5 := Lib.hid h5; clear h5
  go_wp2_with fail
  refine (may_no H5.out wIf (by decide) HI5'.out).mono ?_; rintro e w6 ⟨rfl, h6⟩
  have H6 := Lib.hid h6; clear h6
  go_wp2_with fail
  refine (may_no H6.out wWas (by decide) HI6'.out).mono ?_; rintro e w7 ⟨rfl, h7⟩
  have H7 := Lib.hid h7; clear h7
  go_wp2_with fail
  refine (must_yes' H7.out wOpen (by decide) HI7'.out).mono ?_; rintro e w8 ⟨rfl, h8⟩
  have H8 := Lib.hid h8; clear h8
  go_wp2_with fail
  refine (put_ok H8.out 5 0 (by omega)).mono ?_; rintro e w9 ⟨rfl, h9⟩
  have H9 := Lib.hid h9; clear h9
  go_wp2_with fail
  refine (HN'.out.yes H9.out HL1'.out hln HA'.out).mono ?_; rintro e w10 ⟨rfl, h10⟩
  have H10 := Lib.hid h10; clear h10
  go_wp2_with fail
  refine (may_yes H10.out wBar (by decide) HB'.out).mono ?_; rintro e w11 ⟨rfl, h11⟩
  rw [List.append_assoc] at h11
  obtain ⟨bk, ck, k1, k2, k3, h12⟩ := h11.kind 6
  have hk0 := (ps.length : Nat)
  have H12 := Lib.hid h12; clear h12 h11
  go_wp2_with fail
  clear k1 k2 k3
  have HL4 : Hid ((ps ++ (⟨6, 0⟩ : PNode) :: qa.1.flat).length + (l - qa.1.size) = 14) := by have := HL2'.out; unfold Hid; simpa using this
  refine (HN'.out.yes H12.out HL4.out hl3 HC'.out).mono ?_; rintro e w13 ⟨rfl, h13⟩
  have H13 := Lib.hid h13; clear h13
  go_wp2_with fail
  refine (must_no H13.out wClose (by decide) HD'.out).mono ?_; rintro e w14 ⟨rfl, x14⟩
  go_wp2
  exact ⟨rfl, rfl, x14⟩
set_option maxHeartbeats 2000000 in
theorem open_bar_ok {W0 : World} {g : Nat} {w : World} {s : List UInt8} {ps : List PNode} (h : RS W0 g w s ps) {n l : Nat} (hN : NodeOK n) (hl : ps.length + (l + 1) = 14) (hln : l < n) (hi0 : isP wNothing s = false) (hi1 : isP wPause s = false) (hi2 : isP wHalt s = false) (hi3 : isP wEmit s = false) (hi4 : isP wAwait s = false) (hi5 : isP wIf s = false) (hi6 : isP wWas s = false) (hi7 : isP wOpen s = true) {qa : Tr × List UInt8} (ha : readT n l (restP wOpen s) = some qa) (hb : isP wBar qa.2 = true) {qb : Tr × List UInt8} (hc : readT n (l - qa.1.size) (restP wBar qa.2) = some qb) (hd : isP wClose qb.2 = true) :
    Calls Tryd.prog 36 #[.pointer (some ⟨g, 0, none⟩)] w fun e w' => e = .returned (.tuple #[]) ∧ RS W0 g w' (restP wClose qb.2) (ps ++ (⟨6, 0⟩ :: (qa.1.flat ++ qb.1.flat))) := by
  have hl1 : (ps ++ [(⟨5, 0⟩ : PNode)]).length + l = 14 := by simp; omega
  have hl2 : ((ps ++ [(⟨5, 0⟩ : PNode)]) ++ qa.1.flat).length + (l - qa.1.size) = 14 := by have := read_small (t := qa.1) (r := qa.2) ha; simp [flat_size]; omega
  have hl3 : l - qa.1.size < n := by omega
  have H0 := Lib.hid h; clear h
  have HI0' := Lib.hid hi0; clear hi0
  have HI1' := Lib.hid hi1; clear hi1
  have HI2' := Lib.hid hi2; clear hi2
  have HI3' := Lib.hid hi3; clear hi3
  have HI4' := Lib.hid hi4; clear hi4
  have HI5' := Lib.hid hi5; clear hi5
  have HI6' := Lib.hid hi6; clear hi6
  have HI7' := Lib.hid hi7; clear hi7
  have HN' := Lib.hid hN; clear hN
  have HA' := Lib.hid ha; clear ha
  have HB' := Lib.hid hb; clear hb
  have HL1' := Lib.hid hl1; clear hl1
  have HL2' := Lib.hid hl2; clear hl2
  have HC' := Lib.hid hc; clear hc
  have HD' := Lib.hid hd; clear hd
  go_enter Tryd.func36, Tryd.ntmps36
  go_wp2_with fail
  refine (may_no H0.out wNothing (by decide) HI0'.out).mono ?_; rintro e w1 ⟨rfl, h1⟩
  have H1 := Lib.hid h1; clear h1
  go_wp2_with fail
  refine (may_no H1.out wPause (by decide) HI1'.out).mono ?_; rintro e w2 ⟨rfl, h2⟩
  have H2 := Lib.hid h2; clear h2
  go_wp2_with fail
  refine (may_no H2.out wHalt (by decide) HI2'.out).mono ?_; rintro e w3 ⟨rfl, h3⟩
  have H3 := Lib.hid h3; clear h3
  go_wp2_with fail
  refine (may_no H3.out wEmit (by decide) HI3'.out).mono ?_; rintro e w4 ⟨rfl, h4⟩
  have H4 := Lib.hid h4; clear h4
  go_wp2_with fail
  refine (may_no H4.out wAwait (by decide) HI4'.out).mono ?_; rintro e w5 ⟨rfl, h5⟩
  have H5 := Lib.hid h5; clear h5
  go_wp2_with fail
  refine (may_no H5.out wIf (by decide) HI5'.out).mono ?_; rintro e w6 ⟨rfl, h6⟩
  have H6 := Lib.hid h6; clear h6
  go_wp2_with fail
  refine (may_no H6.out wWas (by decide) HI6'.out).mono ?_; rintro e w7 ⟨rfl, h7⟩
  have H7 := Lib.hid h7; clear h7
  go_wp2_with fail
  refine (must_yes' H7.out wOpen (by decide) HI7'.out).mono ?_; rintro e w8 ⟨rfl, h8⟩
  have H8 := Lib.hid h8; clear h8
  go_wp2_with fail
  refine (put_ok H8.out 5 0 (by omega)).mono ?_; rintro e w9 ⟨rfl, h9⟩
  have H9 := Lib.hid h9; clear h9
  go_wp2_with fail
  refine (HN'.out.yes H9.out HL1'.out hln HA'.out).mono ?_; rintro e w10 ⟨rfl, h10⟩
  have H10 := Lib.hid h10; clear h10
  go_wp2_with fail
  refine (may_yes H10.out wBar (by decide) HB'.out).mono ?_; rintro e w11 ⟨rfl, h11⟩
  rw [List.append_assoc] at h11
  obtain ⟨bk, ck, k1, k2, k3, h12⟩ := h11.kind 6
  have hk0 := (ps.length : Nat)
  have H12 := Lib.hid h12; clear h12 h11
  go_wp2_with fail
  clear k1 k2 k3
  have HL4 : Hid ((ps ++ (⟨6, 0⟩ : PNode) :: qa.1.flat).length + (l - qa.1.size) = 14) := by have := HL2'.out; unfold Hid; simpa using this
  refine (HN'.out.yes H12.out HL4.out hl3 HC'.out).mono ?_; rintro e w13 ⟨rfl, h13⟩
  have H13 := Lib.hid h13; clear h13
  go_wp2_with fail
  refine (must_yes' H13.out wClose (by decide) HD'.out).mono ?_; rintro e w14 ⟨rfl, h14⟩
  have H14 := Lib.hid h14; clear h14
  go_wp2
  go_end0
  exact ⟨rfl, by have := H14.out; simpa using this⟩
set_option maxHeartbeats 2000000 in
theorem open_semi_b {W0 : World} {g : Nat} {w : World} {s : List UInt8} {ps : List PNode} (h : RS W0 g w s ps) {n l : Nat} (hN : NodeOK n) (hl : ps.length + (l + 1) = 14) (hln : l < n) (hi0 : isP wNothing s = false) (hi1 : isP wPause s = false) (hi2 : isP wHalt s = false) (hi3 : isP wEmit s = false) (hi4 : isP wAwait s = false) (hi5 : isP wIf s = false) (hi6 : isP wWas s = false) (hi7 : isP wOpen s = true) {qa : Tr × List UInt8} (ha : readT n l (restP wOpen s) = some qa) (hb : isP wBar qa.2 = false) (hm : isP wSemi qa.2 = true) (hc : readT n (l - qa.1.size) (restP wSemi qa.2) = none) :
    Calls Tryd.prog 36 #[.pointer (some ⟨g, 0, none⟩)] w fun e w' => e = .panicked [broken] ∧ Ext W0 w' := by
  have hl1 : (ps ++ [(⟨5, 0⟩ : PNode)]).length + l = 14 := by simp; omega
  have hl2 : ((ps ++ [(⟨5, 0⟩ : PNode)]) ++ qa.1.flat).length + (l - qa.1.size) = 14 := by have := read_small (t := qa.1) (r := qa.2) ha; simp [flat_size]; omega
  have hl3 : l - qa.1.size < n := by omega
  have H0 := Lib.hid h; clear h
  have HI0' := Lib.hid hi0; clear hi0
  have HI1' := Lib.hid hi1; clear hi1
  have HI2' := Lib.hid hi2; clear hi2
  have HI3' := Lib.hid hi3; clear hi3
  have HI4' := Lib.hid hi4; clear hi4
  have HI5' := Lib.hid hi5; clear hi5
  have HI6' := Lib.hid hi6; clear hi6
  have HI7' := Lib.hid hi7; clear hi7
  have HN' := Lib.hid hN; clear hN
  have HA' := Lib.hid ha; clear ha
  have HB' := Lib.hid hb; clear hb
  have HL1' := Lib.hid hl1; clear hl1
  have HL2' := Lib.hid hl2; clear hl2
  have HC' := Lib.hid hc; clear hc
  have HM' := Lib.hid hm; clear hm
  go_enter Tryd.func36, Tryd.ntmps36
  go_wp2_with fail
  refine (may_no H0.out wNothing (by decide) HI0'.out).mono ?_; rintro e w1 ⟨rfl, h1⟩
  have H1 := Lib.hid h1; clear h1
  go_wp2_with fail
  refine (may_no H1.out wPause (by decide) HI1'.out).mono ?_; rintro e w2 ⟨rfl, h2⟩
  have H2 := Lib.hid h2; clear h2
  go_wp2_with fail
  refine (may_no H2.out wHalt (by decide) HI2'.out).mono ?_; rintro e w3 ⟨rfl, h3⟩
  have H3 := Lib.hid h3; clear h3
  go_wp2_with fail
  refine (may_no H3.out wEmit (by decide) HI3'.out).mono ?_; rintro e w4 ⟨rfl, h4⟩
  have H4 := Lib.hid h4; clear h4
  go_wp2_with fail
  refine (may_no H4.out wAwait (by decide) HI4'.out).mono ?_; rintro e w5 ⟨rfl, h5⟩
  have H5 := Lib.hid h5; clear h5
  go_wp2_with fail
  refine (may_no H5.out wIf (by decide) HI5'.out).mono ?_; rintro e w6 ⟨rfl, h6⟩
  have H6 := Lib.hid h6; clear h6
  go_wp2_with fail
  refine (may_no H6.out wWas (by decide) HI6'.out).mono ?_; rintro e w7 ⟨rfl, h7⟩
  have H7 := Lib.hid h7; clear h7
  go_wp2_with fail
  refine (must_yes' H7.out wOpen (by decide) HI7'.out).mono ?_; rintro e w8 ⟨rfl, h8⟩
  have H8 := Lib.hid h8; clear h8
  go_wp2_with fail
  refine (put_ok H8.out 5 0 (by omega)).mono ?_; rintro e w9 ⟨rfl, h9⟩
  have H9 := Lib.hid h9; clear h9
  go_wp2_with fail
  refine (HN'.out.yes H9.out HL1'.out hln HA'.out).mono ?_; rintro e w10 ⟨rfl, h10⟩
  have H10 := Lib.hid h10; clear h10
  go_wp2_with fail
  refine (may_no H10.out wBar (by decide) HB'.out).mono ?_; rintro e w11 ⟨rfl, h11⟩
  have H11 := Lib.hid h11; clear h11
  go_wp2_with fail
  refine (must_yes' H11.out wSemi (by decide) HM'.out).mono ?_; rintro e w12 ⟨rfl, h12⟩
  have H12 := Lib.hid h12; clear h12
  go_wp2_with fail
  refine (HN'.out.no H12.out HL2'.out hl3 HC'.out).mono ?_; rintro e w13 ⟨rfl, x13⟩
  go_wp2
  exact ⟨rfl, rfl, x13⟩
set_option maxHeartbeats 2000000 in
theorem open_semi_e {W0 : World} {g : Nat} {w : World} {s : List UInt8} {ps : List PNode} (h : RS W0 g w s ps) {n l : Nat} (hN : NodeOK n) (hl : ps.length + (l + 1) = 14) (hln : l < n) (hi0 : isP wNothing s = false) (hi1 : isP wPause s = false) (hi2 : isP wHalt s = false) (hi3 : isP wEmit s = false) (hi4 : isP wAwait s = false) (hi5 : isP wIf s = false) (hi6 : isP wWas s = false) (hi7 : isP wOpen s = true) {qa : Tr × List UInt8} (ha : readT n l (restP wOpen s) = some qa) (hb : isP wBar qa.2 = false) (hm : isP wSemi qa.2 = true) {qb : Tr × List UInt8} (hc : readT n (l - qa.1.size) (restP wSemi qa.2) = some qb) (hd : isP wClose qb.2 = false) :
    Calls Tryd.prog 36 #[.pointer (some ⟨g, 0, none⟩)] w fun e w' => e = .panicked [broken] ∧ Ext W0 w' := by
  have hl1 : (ps ++ [(⟨5, 0⟩ : PNode)]).length + l = 14 := by simp; omega
  have hl2 : ((ps ++ [(⟨5, 0⟩ : PNode)]) ++ qa.1.flat).length + (l - qa.1.size) = 14 := by have := read_small (t := qa.1) (r := qa.2) ha; simp [flat_size]; omega
  have hl3 : l - qa.1.size < n := by omega
  have H0 := Lib.hid h; clear h
  have HI0' := Lib.hid hi0; clear hi0
  have HI1' := Lib.hid hi1; clear hi1
  have HI2' := Lib.hid hi2; clear hi2
  have HI3' := Lib.hid hi3; clear hi3
  have HI4' := Lib.hid hi4; clear hi4
  have HI5' := Lib.hid hi5; clear hi5
  have HI6' := Lib.hid hi6; clear hi6
  have HI7' := Lib.hid hi7; clear hi7
  have HN' := Lib.hid hN; clear hN
  have HA' := Lib.hid ha; clear ha
  have HB' := Lib.hid hb; clear hb
  have HL1' := Lib.hid hl1; clear hl1
  have HL2' := Lib.hid hl2; clear hl2
  have HC' := Lib.hid hc; clear hc
  have HM' := Lib.hid hm; clear hm
  have HD' := Lib.hid hd; clear hd
  go_enter Tryd.func36, Tryd.ntmps36
  go_wp2_with fail
  refine (may_no H0.out wNothing (by decide) HI0'.out).mono ?_; rintro e w1 ⟨rfl, h1⟩
  have H1 := Lib.hid h1; clear h1
  go_wp2_with fail
  refine (may_no H1.out wPause (by decide) HI1'.out).mono ?_; rintro e w2 ⟨rfl, h2⟩
  have H2 := Lib.hid h2; clear h2
  go_wp2_with fail
  refine (may_no H2.out wHalt (by decide) HI2'.out).mono ?_; rintro e w3 ⟨rfl, h3⟩
  have H3 := Lib.hid h3; clear h3
  go_wp2_with fail
  refine (may_no H3.out wEmit (by decide) HI3'.out).mono ?_; rintro e w4 ⟨rfl, h4⟩
  have H4 := Lib.hid h4; clear h4
  go_wp2_with fail
  refine (may_no H4.out wAwait (by decide) HI4'.out).mono ?_; rintro e w5 ⟨rfl, h5⟩
  have H5 := Lib.hid h5; clear h5
  go_wp2_with fail
  refine (may_no H5.out wIf (by decide) HI5'.out).mono ?_; rintro e w6 ⟨rfl, h6⟩
  have H6 := Lib.hid h6; clear h6
  go_wp2_with fail
  refine (may_no H6.out wWas (by decide) HI6'.out).mono ?_; rintro e w7 ⟨rfl, h7⟩
  have H7 := Lib.hid h7; clear h7
  go_wp2_with fail
  refine (must_yes' H7.out wOpen (by decide) HI7'.out).mono ?_; rintro e w8 ⟨rfl, h8⟩
  have H8 := Lib.hid h8; clear h8
  go_wp2_with fail
  refine (put_ok H8.out 5 0 (by omega)).mono ?_; rintro e w9 ⟨rfl, h9⟩
  have H9 := Lib.hid h9; clear h9
  go_wp2_with fail
  refine (HN'.out.yes H9.out HL1'.out hln HA'.out).mono ?_; rintro e w10 ⟨rfl, h10⟩
  have H10 := Lib.hid h10; clear h10
  go_wp2_with fail
  refine (may_no H10.out wBar (by decide) HB'.out).mono ?_; rintro e w11 ⟨rfl, h11⟩
  have H11 := Lib.hid h11; clear h11
  go_wp2_with fail
  refine (must_yes' H11.out wSemi (by decide) HM'.out).mono ?_; rintro e w12 ⟨rfl, h12⟩
  have H12 := Lib.hid h12; clear h12
  go_wp2_with fail
  refine (HN'.out.yes H12.out HL2'.out hl3 HC'.out).mono ?_; rintro e w13 ⟨rfl, h13⟩
  have H13 := Lib.hid h13; clear h13
  go_wp2_with fail
  refine (must_no H13.out wClose (by decide) HD'.out).mono ?_; rintro e w14 ⟨rfl, x14⟩
  go_wp2
  exact ⟨rfl, rfl, x14⟩
set_option maxHeartbeats 2000000 in
theorem open_semi_ok {W0 : World} {g : Nat} {w : World} {s : List UInt8} {ps : List PNode} (h : RS W0 g w s ps) {n l : Nat} (hN : NodeOK n) (hl : ps.length + (l + 1) = 14) (hln : l < n) (hi0 : isP wNothing s = false) (hi1 : isP wPause s = false) (hi2 : isP wHalt s = false) (hi3 : isP wEmit s = false) (hi4 : isP wAwait s = false) (hi5 : isP wIf s = false) (hi6 : isP wWas s = false) (hi7 : isP wOpen s = true) {qa : Tr × List UInt8} (ha : readT n l (restP wOpen s) = some qa) (hb : isP wBar qa.2 = false) (hm : isP wSemi qa.2 = true) {qb : Tr × List UInt8} (hc : readT n (l - qa.1.size) (restP wSemi qa.2) = some qb) (hd : isP wClose qb.2 = true) :
    Calls Tryd.prog 36 #[.pointer (some ⟨g, 0, none⟩)] w fun e w' => e = .returned (.tuple #[]) ∧ RS W0 g w' (restP wClose qb.2) (ps ++ (⟨5, 0⟩ :: (qa.1.flat ++ qb.1.flat))) := by
  have hl1 : (ps ++ [(⟨5, 0⟩ : PNode)]).length + l = 14 := by simp; omega
  have hl2 : ((ps ++ [(⟨5, 0⟩ : PNode)]) ++ qa.1.flat).length + (l - qa.1.size) = 14 := by have := read_small (t := qa.1) (r := qa.2) ha; simp [flat_size]; omega
  have hl3 : l - qa.1.size < n := by omega
  have H0 := Lib.hid h; clear h
  have HI0' := Lib.hid hi0; clear hi0
  have HI1' := Lib.hid hi1; clear hi1
  have HI2' := Lib.hid hi2; clear hi2
  have HI3' := Lib.hid hi3; clear hi3
  have HI4' := Lib.hid hi4; clear hi4
  have HI5' := Lib.hid hi5; clear hi5
  have HI6' := Lib.hid hi6; clear hi6
  have HI7' := Lib.hid hi7; clear hi7
  have HN' := Lib.hid hN; clear hN
  have HA' := Lib.hid ha; clear ha
  have HB' := Lib.hid hb; clear hb
  have HL1' := Lib.hid hl1; clear hl1
  have HL2' := Lib.hid hl2; clear hl2
  have HC' := Lib.hid hc; clear hc
  have HM' := Lib.hid hm; clear hm
  have HD' := Lib.hid hd; clear hd
  go_enter Tryd.func36, Tryd.ntmps36
  go_wp2_with fail
  refine (may_no H0.out wNothing (by decide) HI0'.out).mono ?_; rintro e w1 ⟨rfl, h1⟩
  have H1 := Lib.hid h1; clear h1
  go_wp2_with fail
  refine (may_no H1.out wPause (by decide) HI1'.out).mono ?_; rintro e w2 ⟨rfl, h2⟩
  have H2 := Lib.hid h2; clear h2
  go_wp2_with fail
  refine (may_no H2.out wHalt (by decide) HI2'.out).mono ?_; rintro e w3 ⟨rfl, h3⟩
  have H3 := Lib.hid h3; clear h3
  go_wp2_with fail
  refine (may_no H3.out wEmit (by decide) HI3'.out).mono ?_; rintro e w4 ⟨rfl, h4⟩
  have H4 := Lib.hid h4; clear h4
  go_wp2_with fail
  refine (may_no H4.out wAwait (by decide) HI4'.out).mono ?_; rintro e w5 ⟨rfl, h5⟩
  have H5 := Lib.hid h5; clear h5
  go_wp2_with fail
  refine (may_no H5.out wIf (by decide) HI5'.out).mono ?_; rintro e w6 ⟨rfl, h6⟩
  have H6 := Lib.hid h6; clear h6
  go_wp2_with fail
  refine (may_no H6.out wWas (by decide) HI6'.out).mono ?_; rintro e w7 ⟨rfl, h7⟩
  have H7 := Lib.hid h7; clear h7
  go_wp2_with fail
  refine (must_yes' H7.out wOpen (by decide) HI7'.out).mono ?_; rintro e w8 ⟨rfl, h8⟩
  have H8 := Lib.hid h8; clear h8
  go_wp2_with fail
  refine (put_ok H8.out 5 0 (by omega)).mono ?_; rintro e w9 ⟨rfl, h9⟩
  have H9 := Lib.hid h9; clear h9
  go_wp2_with fail
  refine (HN'.out.yes H9.out HL1'.out hln HA'.out).mono ?_; rintro e w10 ⟨rfl, h10⟩
  have H10 := Lib.hid h10; clear h10
  go_wp2_with fail
  refine (may_no H10.out wBar (by decide) HB'.out).mono ?_; rintro e w11 ⟨rfl, h11⟩
  have H11 := Lib.hid h11; clear h11
  go_wp2_with fail
  refine (must_yes' H11.out wSemi (by decide) HM'.out).mono ?_; rintro e w12 ⟨rfl, h12⟩
  have H12 := Lib.hid h12; clear h12
  go_wp2_with fail
  refine (HN'.out.yes H12.out HL2'.out hl3 HC'.out).mono ?_; rintro e w13 ⟨rfl, h13⟩
  have H13 := Lib.hid h13; clear h13
  go_wp2_with fail
  refine (must_yes' H13.out wClose (by decide) HD'.out).mono ?_; rintro e w14 ⟨rfl, h14⟩
  have H14 := Lib.hid h14; clear h14
  go_wp2
  go_end0
  exact ⟨rfl, by have := H14.out; simpa using this⟩
end Go.Proofs.YtgohhcnmkomafaaDoor
/- text's reader: node, whatever it reads. -/
namespace Go.Proofs.YtgohhcnmkomafaaDoor
set_option linter.unusedVariables false
set_option linter.unusedSimpArgs false
open Go.RowKit
theorem post_some {W0 : World} {g : Nat} {ps : List PNode} {o : Option (Tr × List UInt8)} {e : Ending} {w' : World} {t : Tr} {r : List UInt8} (ho : o = some (t, r)) (h : e = .returned (.tuple #[]) ∧ RS W0 g w' r (ps ++ t.flat)) : NodePost W0 g ps o e w' := by
  subst ho; exact h
theorem post_none {W0 : World} {g : Nat} {ps : List PNode} {o : Option (Tr × List UInt8)} {e : Ending} {w' : World} (ho : o = none) (h : e = .panicked [broken] ∧ Ext W0 w') : NodePost W0 g ps o e w' := by
  subst ho; exact h
theorem node_ok : ∀ n, NodeOK n
  | 0 => fun W0 g w s ps left h hl hn => by omega
  | n + 1 => fun W0 g w s ps left h hl hn => by
    have hN := node_ok n
    cases left with
    | zero =>
      have hl : ps.length = 14 := by omega
      have none' : readT (n + 1) 0 s = none := rfl
      cases hi0 : isP wNothing s
      rotate_left
      · exact (node_full0 h hl hi0).mono fun e w' q => post_none none' q
      cases hi1 : isP wPause s
      rotate_left
      · exact (node_full1 h hl hi0 hi1).mono fun e w' q => post_none none' q
      cases hi2 : isP wHalt s
      rotate_left
      · exact (node_full2 h hl hi0 hi1 hi2).mono fun e w' q => post_none none' q
      cases hi3 : isP wEmit s
      rotate_left
      · cases hs : signP 65 (restP wEmit s) with
        | none => exact (node_sign3 h hi0 hi1 hi2 hi3 hs).mono fun e w' q => post_none none' q
        | some q => exact (node_full3 h hl hi0 hi1 hi2 hi3 hs).mono fun e w' q => post_none none' q
      cases hi4 : isP wAwait s
      rotate_left
      · cases hs : signP 120 (restP wAwait s) with
        | none => exact (node_sign4 h hi0 hi1 hi2 hi3 hi4 hs).mono fun e w' q => post_none none' q
        | some q => exact (node_full4 h hl hi0 hi1 hi2 hi3 hi4 hs).mono fun e w' q => post_none none' q
      cases hi5 : isP wIf s
      rotate_left
      · cases hs : signP 120 (restP wIf s) with
        | none => exact (node_sign5 h hi0 hi1 hi2 hi3 hi4 hi5 hs).mono fun e w' q => post_none none' q
        | some q => exact (node_full5 h hl hi0 hi1 hi2 hi3 hi4 hi5 hs).mono fun e w' q => post_none none' q
      cases hi6 : isP wWas s
      rotate_left
      · cases hs : signP 65 (restP wWas s) with
        | none => exact (node_sign6 h hi0 hi1 hi2 hi3 hi4 hi5 hi6 hs).mono fun e w' q => post_none none' q
        | some q => exact (node_full6 h hl hi0 hi1 hi2 hi3 hi4 hi5 hi6 hs).mono fun e w' q => post_none none' q
      cases hi7 : isP wOpen s
      · exact (node_none h hi0 hi1 hi2 hi3 hi4 hi5 hi6 hi7).mono fun e w' q => post_none none' q
      · exact (node_full7 h hl hi0 hi1 hi2 hi3 hi4 hi5 hi6 hi7).mono fun e w' q => post_none none' q
    | succ l =>
      have hln : l < n := by omega
      have hl' : ps.length < 14 := by omega
      have hR : readT (n + 1) (l + 1) s = oneT (readT n) l s := rfl
      cases hi0 : isP wNothing s
      rotate_left
      · exact (node_leaf0 h hl' hi0).mono fun e w' q => post_some (t := .leaf ⟨0, 0⟩) (r := restP wNothing s) (by rw [hR]; simp [oneT, cutP_isP, hi0]) q
      cases hi1 : isP wPause s
      rotate_left
      · exact (node_leaf1 h hl' hi0 hi1).mono fun e w' q => post_some (t := .leaf ⟨1, 0⟩) (r := restP wPause s) (by rw [hR]; simp [oneT, cutP_isP, hi0, hi1]) q
      cases hi2 : isP wHalt s
      rotate_left
      · exact (node_leaf2 h hl' hi0 hi1 hi2).mono fun e w' q => post_some (t := .leaf ⟨2, 0⟩) (r := restP wHalt s) (by rw [hR]; simp [oneT, cutP_isP, hi0, hi1, hi2]) q
      cases hi3 : isP wEmit s
      rotate_left
      · cases hs : signP 65 (restP wEmit s) with
        | none => exact (node_sign3 h hi0 hi1 hi2 hi3 hs).mono fun e w' q => post_none (by rw [hR]; simp [oneT, cutP_isP, hi0, hi1, hi2, hi3, hs]) q
        | some q => exact (node_leaf3 h hl' hi0 hi1 hi2 hi3 hs).mono fun e w' q' => post_some (t := .leaf ⟨3, q.1⟩) (r := q.2) (by rw [hR]; simp [oneT, cutP_isP, hi0, hi1, hi2, hi3, hs]) q'
      cases hi4 : isP wAwait s
      rotate_left
      · cases hs : signP 120 (restP wAwait s) with
        | none => exact (node_sign4 h hi0 hi1 hi2 hi3 hi4 hs).mono fun e w' q => post_none (by rw [hR]; simp [oneT, cutP_isP, hi0, hi1, hi2, hi3, hi4, hs]) q
        | some q => exact (node_leaf4 h hl' hi0 hi1 hi2 hi3 hi4 hs).mono fun e w' q' => post_some (t := .leaf ⟨4, q.1⟩) (r := q.2) (by rw [hR]; simp [oneT, cutP_isP, hi0, hi1, hi2, hi3, hi4, hs]) q'
      cases hi5 : isP wIf s
      rotate_left
      · cases hs : signP 120 (restP wIf s) with
        | none => exact (node_sign5 h hi0 hi1 hi2 hi3 hi4 hi5 hs).mono fun e w' q => post_none (by rw [hR]; simp [oneT, cutP_isP, hi0, hi1, hi2, hi3, hi4, hi5, hs]) q
        | some q =>
          cases hf : forkT (readT n) l ⟨7, q.1⟩ q.2 with
          | none => exact (node_forkno5 h hN hl hln hi0 hi1 hi2 hi3 hi4 hi5 hs hf).mono fun e w' q => post_none (by rw [hR]; simp [oneT, cutP_isP, hi0, hi1, hi2, hi3, hi4, hi5, hs, hf]) q
          | some f => exact (node_fork5 h hN hl hln hi0 hi1 hi2 hi3 hi4 hi5 hs hf).mono fun e w' q => post_some (by rw [hR]; simp [oneT, cutP_isP, hi0, hi1, hi2, hi3, hi4, hi5, hs, hf]) q
      cases hi6 : isP wWas s
      rotate_left
      · cases hs : signP 65 (restP wWas s) with
        | none => exact (node_sign6 h hi0 hi1 hi2 hi3 hi4 hi5 hi6 hs).mono fun e w' q => post_none (by rw [hR]; simp [oneT, cutP_isP, hi0, hi1, hi2, hi3, hi4, hi5, hi6, hs]) q
        | some q =>
          cases hf : forkT (readT n) l ⟨8, q.1⟩ q.2 with
          | none => exact (node_forkno6 h hN hl hln hi0 hi1 hi2 hi3 hi4 hi5 hi6 hs hf).mono fun e w' q => post_none (by rw [hR]; simp [oneT, cutP_isP, hi0, hi1, hi2, hi3, hi4, hi5, hi6, hs, hf]) q
          | some f => exact (node_fork6 h hN hl hln hi0 hi1 hi2 hi3 hi4 hi5 hi6 hs hf).mono fun e w' q => post_some (by rw [hR]; simp [oneT, cutP_isP, hi0, hi1, hi2, hi3, hi4, hi5, hi6, hs, hf]) q
      cases hi7 : isP wOpen s
      · exact (node_none h hi0 hi1 hi2 hi3 hi4 hi5 hi6 hi7).mono fun e w' q => post_none (by rw [hR]; simp [oneT, cutP_isP, hi0, hi1, hi2, hi3, hi4, hi5, hi6, hi7]) q
      have hO : oneT (readT n) l s = openT (readT n) l (restP wOpen s) := by simp [oneT, cutP_isP, hi0, hi1, hi2, hi3, hi4, hi5, hi6, hi7]
      rw [hO] at hR; clear hO
      cases ha : readT n l (restP wOpen s) with
      | none => exact (open_a h hN hl hln hi0 hi1 hi2 hi3 hi4 hi5 hi6 hi7 ha).mono fun e w' q => post_none (by rw [hR]; simp [openT, ha]) q
      | some qa =>
        cases hb : isP wBar qa.2
        · cases hm : isP wSemi qa.2
          · exact (open_nosemi h hN hl hln hi0 hi1 hi2 hi3 hi4 hi5 hi6 hi7 ha hb hm).mono fun e w' q => post_none (by rw [hR]; simp [openT, cutP_isP, ha, hb, hm]) q
          · cases hc : readT n (l - qa.1.size) (restP wSemi qa.2) with
            | none => exact (open_semi_b h hN hl hln hi0 hi1 hi2 hi3 hi4 hi5 hi6 hi7 ha hb hm hc).mono fun e w' q => post_none (by rw [hR]; simp [openT, behindT, cutP_isP, ha, hb, hm, hc]) q
            | some qb =>
              cases hd : isP wClose qb.2
              · exact (open_semi_e h hN hl hln hi0 hi1 hi2 hi3 hi4 hi5 hi6 hi7 ha hb hm hc hd).mono fun e w' q => post_none (by rw [hR]; simp [openT, behindT, cutP_isP, ha, hb, hm, hc, hd]) q
              · exact (open_semi_ok h hN hl hln hi0 hi1 hi2 hi3 hi4 hi5 hi6 hi7 ha hb hm hc hd).mono fun e w' q => post_some (t := .two ⟨5, 0⟩ qa.1 qb.1) (r := restP wClose qb.2) (by rw [hR]; simp [openT, behindT, cutP_isP, ha, hb, hm, hc, hd]) (by rw [flat_two]; exact q)
        · cases hc : readT n (l - qa.1.size) (restP wBar qa.2) with
          | none => exact (open_bar_b h hN hl hln hi0 hi1 hi2 hi3 hi4 hi5 hi6 hi7 ha hb hc).mono fun e w' q => post_none (by rw [hR]; simp [openT, behindT, cutP_isP, ha, hb, hc]) q
          | some qb =>
            cases hd : isP wClose qb.2
            · exact (open_bar_e h hN hl hln hi0 hi1 hi2 hi3 hi4 hi5 hi6 hi7 ha hb hc hd).mono fun e w' q => post_none (by rw [hR]; simp [openT, behindT, cutP_isP, ha, hb, hc, hd]) q
            · exact (open_bar_ok h hN hl hln hi0 hi1 hi2 hi3 hi4 hi5 hi6 hi7 ha hb hc hd).mono fun e w' q => post_some (t := .two ⟨6, 0⟩ qa.1 qb.1) (r := restP wClose qb.2) (by rw [hR]; simp [openT, behindT, cutP_isP, ha, hb, hc, hd]) (by rw [flat_two]; exact q)
end Go.Proofs.YtgohhcnmkomafaaDoor
/- text.Read walked. -/
namespace Go.Proofs.YtgohhcnmkomafaaDoor
set_option linter.unusedVariables false
set_option linter.unusedSimpArgs false
open Go.RowKit
theorem wpS_of_wpR {P : Program} {c : Code} {Q : Exit → Act → List Frame → World → Prop} {a : Act} {cs : List Frame} {w : World} (h : ∀ Q' : Exit → Act → World → Prop, (∀ e a' w', Q e a' cs w' → Q' e a' w') → c.wp P Q' a w) : c.wpS P Q a cs w :=
  wpS_of_wp (h _ fun _ _ _ h => h)
theorem makeFunc_anyR (fn : Fn) (first cap : Array Value) (w : World) : (Instr.makeFunc fn first cap).run Tryd.prog w = .ok (.func fn first cap) w := rfl
/-- The deferred closure, where something was thrown. -/
theorem rd_thrown (p q : Addr) (u v : Value) (older : List PanicEntry) (w : World) (hc : w.cell? p = some u) (hz : w.frozen? p = false) (hd : w.cell? q = some v) (hy : w.frozen? q = false) (hpq : p ≠ q) :
    CallsD Tryd.prog 35 #[.pointer (some p), .pointer (some q)] (.panicking (broken :: older)) w fun en u' w' =>
      en = .returned (.tuple #[]) ∧ u' = .panicking ({ broken with recovered := true } :: older) ∧ w' = (w.setCell p (.slice none 0 0)).setCell q (I 1) := by
  have hd2 : ∀ x, (w.setCell p x).cell? q = some v := fun x => (World.cell?_setCell_other _ _ _ _ hpq).trans hd
  refine callsD_of_wpS Tryd.func35 rfl fun c₀ cs hu => ?_
  simp only [Tryd.ntmps35, List.size_toArray, List.length_cons, List.length_nil, Nat.reduceAdd, Nat.reduceSub, Array.replicate_succ, Array.replicate_zero, List.push_toArray, List.append_toArray, List.nil_append, List.cons_append]
  apply wpS_seq
  apply wpS_region
  simp [wpOpsS, go_sem, recoverD, hu, Exit.thenS]
  refine wpS_of_wpR fun Q hQ => ?_
  have HU := Lib.hid hu; clear hu
  go_wp2
  simp [bodyPostS, results, Tryd.results35]
theorem rd_idle (p q : Addr) (w : World) :
    CallsD Tryd.prog 35 #[.pointer (some p), .pointer (some q)] .returning w fun e u' w' => e = .returned (.tuple #[]) ∧ u' = .returning ∧ w' = w := by
  refine callsD_of_wpS Tryd.func35 rfl fun c₀ cs hu => ?_
  simp only [Tryd.ntmps35, List.size_toArray, List.length_cons, List.length_nil, Nat.reduceAdd, Nat.reduceSub, Array.replicate_succ, Array.replicate_zero, List.push_toArray, List.append_toArray, List.nil_append, List.cons_append]
  apply wpS_seq
  apply wpS_region
  simp [wpOpsS, go_sem, recoverD, hu, Exit.thenS]
  refine wpS_of_wpR fun Q hQ => ?_
  have HU := Lib.hid hu; clear hu
  go_wp2
  have hu := HU.out
  cases c₀
  simp_all [bodyPostS, results, Tryd.results35]
/-- Read's door, behind a panic. -/
theorem rdoor_panic (tmps : Array Value) (p q : Addr) (u v : Value) (R : Ending → World → Prop) (w : World) (hc : w.cell? p = some u) (hz : w.frozen? p = false) (hd : w.cell? q = some v) (hy : w.frozen? q = false) (hpq : p ≠ q) (h2 : tmps.getD 2 undef = .pointer (some p)) (h3 : tmps.getD 3 undef = .pointer (some q))
    (hR : R (.returned (Pr (.slice none 0 0) (I 1))) ((w.setCell p (.slice none 0 0)).setCell q (I 1))) :
    bodyPostD Tryd.prog Tryd.f16 R (Exit.panic [broken]) { tmps := tmps, defers := [{ target := .fn (.func 35) #[.pointer (some p), .pointer (some q)], args := #[] }] } w := by
  have c3 : ((w.setCell p (.slice none 0 0)).setCell q (I 1)).cell? p = some (.slice none 0 0) := (World.cell?_setCell_other _ _ _ _ (Ne.symm hpq)).trans (World.cell?_setCell_same _ _ _ hc)
  have d3 : ((w.setCell p (.slice none 0 0)).setCell q (I 1)).cell? q = some (I 1) := World.cell?_setCell_same _ _ _ ((World.cell?_setCell_other _ _ _ _ hpq).trans hd)
  refine leaves_cons (f := 35) (args := #[.pointer (some p), .pointer (some q)]) (by simp) (by simp [go_sem]) ?_
  refine (rd_thrown p q u v [] _ hc hz hd hy hpq).mono ?_
  rintro en u' w'' ⟨rfl, rfl, rfl⟩
  generalize (w.setCell p (.slice none 0 0)).setCell q (I 1) = W at hR c3 d3
  have h2' : tmps[2]?.getD undef = .pointer (some p) := by simpa using h2
  have h3' : tmps[3]?.getD undef = .pointer (some q) := by simpa using h3
  simp [Leaves, settle, results, Tryd.results16, go_sem, h2, h2', h3, h3', c3, d3, hR]
/-- Read's door, where nothing was thrown. -/
theorem rdoor_ok (ex : Exit) (hex : ex = .ret ∨ ex = .normal) (tmps : Array Value) (p q : Addr) (u v : Value) (R : Ending → World → Prop) (w : World) (hc : w.cell? p = some u) (hd : w.cell? q = some v) (h2 : tmps.getD 2 undef = .pointer (some p)) (h3 : tmps.getD 3 undef = .pointer (some q))
    (hR : R (.returned (Pr u v)) w) :
    bodyPostD Tryd.prog Tryd.f16 R ex { tmps := tmps, defers := [{ target := .fn (.func 35) #[.pointer (some p), .pointer (some q)], args := #[] }] } w := by
  have h2' : tmps[2]?.getD undef = .pointer (some p) := by simpa using h2
  have h3' : tmps[3]?.getD undef = .pointer (some q) := by simpa using h3
  rcases hex with rfl | rfl
  all_goals
    refine leaves_cons (f := 35) (args := #[.pointer (some p), .pointer (some q)]) (by simp) (by simp [go_sem]) ?_
    refine (rd_idle p q _).mono ?_
    rintro en u' w'' ⟨rfl, rfl, rfl⟩
    simp [Leaves, settle, results, Tryd.results16, go_sem, h2, h2', h3, h3', hc, hd, hR]
set_option maxHeartbeats 2000000 in
theorem read_many (s : List UInt8) (w : World) (hs : 4096 < s.length) (hm : s.length ≤ maxLen) :
    Calls Tryd.prog 16 #[S s] w fun e w' => e = .returned (Pr (.slice none 0 0) (I 2)) ∧ Ext w w' := by
  unfold maxLen at hm
  go_enter_defers Tryd.func16, Tryd.ntmps16
  go_wp2_with fail
  have c3 : ((w.alloc (.cells #[.slice none 0 0] 22)).alloc (.cells #[.int .i64 2] 24)).cell? ⟨w.heap.size, 0, none⟩ = some (.slice none 0 0) :=
    Keeps.alloc _ _ _ _ (by rw [World.cell?_alloc_new]; rfl)
  have d3 : ((w.alloc (.cells #[.slice none 0 0] 22)).alloc (.cells #[.int .i64 2] 24)).cell? ⟨w.heap.size + 1, 0, none⟩ = some (I 2) := by
    have := World.cell?_alloc_new (w := w.alloc (.cells #[.slice none 0 0] 22)) #[I 2] 24 0
    rw [World.size_alloc] at this
    rw [this]; rfl
  have hx := ((Ext.refl w).alloc (.cells #[.slice none 0 0] 22)).alloc (.cells #[.int .i64 2] 24)
  generalize (w.alloc (.cells #[.slice none 0 0] 22)).alloc (.cells #[.int .i64 2] 24) = W at c3 d3 hx
  simp [bodyPostD, Leaves, settle, results, Tryd.results16, go_sem, c3, d3, hx]
/-- Read's world behind its head: the results' cells. -/
def rdW (w : World) : World := (w.alloc (.cells #[.slice none 0 0] 22)).alloc (.cells #[.int .i64 0] 24)
theorem rdW_ext (w : World) : Ext w (rdW w) := ((Ext.refl w).alloc _).alloc _
theorem rdW_size (w : World) : (rdW w).heap.size = w.heap.size + 2 := by simp [rdW]
theorem rdW_c (w : World) : (rdW w).cell? ⟨w.heap.size, 0, none⟩ = some (.slice none 0 0) := Keeps.alloc _ _ _ _ (by rw [World.cell?_alloc_new]; rfl)
theorem rdW_d (w : World) : (rdW w).cell? ⟨w.heap.size + 1, 0, none⟩ = some (I 0) := by
  have := World.cell?_alloc_new (w := w.alloc (.cells #[.slice none 0 0] 22)) #[I 0] 24 0
  rw [World.size_alloc] at this
  unfold rdW; rw [this]; rfl
theorem rdW_f (w : World) : (rdW w).frozen? ⟨w.heap.size, 0, none⟩ = false := by
  unfold rdW
  refine (Below.frozen (p := ⟨w.heap.size, 0, none⟩) ((Ext.refl _).alloc _) (by simp)).trans ?_
  exact World.frozen?_alloc_at _ _ _ _ rfl
theorem rdW_g (w : World) : (rdW w).frozen? ⟨w.heap.size + 1, 0, none⟩ = false := by
  unfold rdW; exact World.frozen?_alloc_at _ _ _ _ (by simp)
theorem rs_new (W : World) (s : List UInt8) (hs : s.length ≤ 5000) (b : Nat) (hb : b = W.heap.size) : RS W b (W.alloc (.cells #[S s, .slice none 0 0] 84)) s [] := by
  subst hb
  refine ⟨(Ext.refl _).alloc _, Nat.le_refl _, by rw [World.cell?_alloc_new]; rfl, World.frozen?_alloc_at _ _ _ _ rfl, ⟨.slice none 0 0, by rw [World.cell?_alloc_new]; rfl, World.ownsRow_nil _ _ _ _⟩, World.frozen?_alloc_at _ _ _ _ rfl, hs⟩
/-- Where something was thrown. -/
theorem rd_fail {w wx : World} (hx : Ext (rdW w) wx) (tmps : Array Value) (h2 : tmps.getD 2 undef = .pointer (some ⟨w.heap.size, 0, none⟩)) (h3 : tmps.getD 3 undef = .pointer (some ⟨w.heap.size + 1, 0, none⟩)) :
    bodyPostD Tryd.prog Tryd.f16 (fun e w' => e = .returned (Pr (.slice none 0 0) (I 1)) ∧ Ext w w') (Exit.panic [broken]) { tmps := tmps, defers := [{ target := .fn (.func 35) #[.pointer (some ⟨w.heap.size, 0, none⟩), .pointer (some ⟨w.heap.size + 1, 0, none⟩)], args := #[] }] } wx := by
  have s0 := rdW_size w
  refine rdoor_panic tmps ⟨w.heap.size, 0, none⟩ ⟨w.heap.size + 1, 0, none⟩ (.slice none 0 0) (I 0) _ wx (hx.keeps _ _ (rdW_c w)) ?_ (hx.keeps _ _ (rdW_d w)) ?_ (by simp) h2 h3 ⟨rfl, ?_⟩
  · exact (Below.frozen (p := ⟨w.heap.size, 0, none⟩) hx (by show w.heap.size < _; omega)).trans (rdW_f w)
  · exact (Below.frozen (p := ⟨w.heap.size + 1, 0, none⟩) hx (by show w.heap.size + 1 < _; omega)).trans (rdW_g w)
  · exact (((rdW_ext w).trans hx).setCell (by exact Nat.le_refl _) _).setCell (by exact Nat.le_succ _) _
set_option maxHeartbeats 2000000 in
theorem read_none (s : List UInt8) (w : World) (hs : s.length ≤ 4096) (hq : readT 15 14 s = none) :
    Calls Tryd.prog 16 #[S s] w fun e w' => e = .returned (Pr (.slice none 0 0) (I 1)) ∧ Ext w w' := by
  have hmf := makeFunc_anyR
  have HQ := Lib.hid hq
  have HE : Hid ((w.alloc (.cells #[.slice none 0 0] 22)).alloc (.cells #[.int .i64 0] 24) = rdW w) := rfl
  have hsz := rdW_size w
  clear hq
  go_enter_defers Tryd.func16, Tryd.ntmps16
  go_wp2_with fail
  rw [HE.out]
  refine ((node_ok 15).no (rs_new (rdW w) s (by omega) _ (by rw [hsz])) (left := 14) rfl (by omega) HQ.out).mono ?_; rintro e w1 ⟨rfl, x1⟩
  go_wp2
  exact rd_fail x1 _ rfl rfl
set_option maxHeartbeats 2000000 in
theorem read_more (s : List UInt8) (w : World) (hs : s.length ≤ 4096) (t : Tr) (r : List UInt8) (hq : readT 15 14 s = some (t, r)) (hr : r ≠ []) :
    Calls Tryd.prog 16 #[S s] w fun e w' => e = .returned (Pr (.slice none 0 0) (I 1)) ∧ Ext w w' := by
  have hmf := makeFunc_anyR
  have HQ := Lib.hid hq
  have HE : Hid ((w.alloc (.cells #[.slice none 0 0] 22)).alloc (.cells #[.int .i64 0] 24) = rdW w) := rfl
  have hsz := rdW_size w
  clear hq
  go_enter_defers Tryd.func16, Tryd.ntmps16
  go_wp2_with fail
  rw [HE.out]
  refine ((node_ok 15).yes (rs_new (rdW w) s (by omega) _ (by rw [hsz])) (left := 14) rfl (by omega) HQ.out).mono ?_; rintro e w1 ⟨rfl, h1⟩
  have c0 := h1.c0
  have X1 := Lib.hid h1.ext; clear h1
  go_wp2
  exact rd_fail X1.out _ rfl rfl
theorem own_nodes {w : World} {base n : Nat} {v : Value} {ps : List PNode} (h : w.ownsRow base 70 2 v n (flatN ps)) : ∃ A c, v = .slice A n c ∧ n ≤ c ∧ c ≤ maxLen ∧ SlN w A n ps := by
  obtain ⟨A, c, hv, h1, h2, hc⟩ := own_slice h
  refine ⟨A, c, hv, h1, h2, ?_, fun k x hx => ?_⟩
  · have := h.1; rw [flatN_len] at this; omega
  · have hg := flat2_get PK PS ps k
    rw [hx] at hg
    obtain ⟨b, off, e1, g1⟩ := hc _ _ hg.1
    obtain ⟨b', off', e2, g2⟩ := hc _ _ hg.2
    rw [e1] at e2
    injection e2 with e2; injection e2 with e2 e3
    subst e2; subst e3
    exact ⟨b, off, e1, g1, g2⟩
set_option maxHeartbeats 2000000 in
theorem read_ok (s : List UInt8) (w : World) (hs : s.length ≤ 4096) (t : Tr) (hq : readT 15 14 s = some (t, [])) :
    Calls Tryd.prog 16 #[S s] w fun e w' => ∃ A c, e = .returned (Pr (.slice A t.size c) (I 0)) ∧ SlN w' A t.size t.flat ∧ t.size ≤ c ∧ c ≤ maxLen ∧ Ext w w' := by
  have hmf := makeFunc_anyR
  have hck : checkP t.flat = 0 := by
    have := read_sound 15 _ _ _ _ hq
    exact tree_check this.ok this.small this.good
  have hst : t.size ≤ 14 := read_small hq
  have HK := Lib.hid hck; have HST := Lib.hid hst
  have HQ := Lib.hid hq
  have HE : Hid ((w.alloc (.cells #[.slice none 0 0] 22)).alloc (.cells #[.int .i64 0] 24) = rdW w) := rfl
  have hsz := rdW_size w
  clear hq hck hst
  go_enter_defers Tryd.func16, Tryd.ntmps16
  go_wp2_with fail
  rw [HE.out]
  refine ((node_ok 15).yes (rs_new (rdW w) s (by omega) _ (by rw [hsz])) (left := 14) rfl (by omega) HQ.out).mono ?_; rintro e w1 ⟨rfl, h1⟩
  have c0 := h1.c0
  obtain ⟨v, c1, ho⟩ := h1.c1
  simp only [List.nil_append] at ho
  obtain ⟨A, c, rfl, hnc, hcm, hsl⟩ := own_nodes ho
  rw [flat_size] at c1 hsl hnc
  have X1 := Lib.hid h1.ext; have C1 := Lib.hid c1; have HSL := Lib.hid hsl; have HNC := Lib.hid hnc; have HCM := Lib.hid hcm; have HO := Lib.hid ho
  clear h1 ho hsl hnc hcm
  go_wp2_with fail
  refine (progCheck_any A t.size c t.flat w1 HSL.out (by have := HST.out; unfold maxLen; omega)).mono ?_; rintro e w2 ⟨rfl, x2⟩; rw [HK.out]
  have c2 := x2.keeps _ _ C1.out
  have e0 := (X1.out.trans x2).keeps _ _ (rdW_c w)
  have e1 := (X1.out.trans x2).keeps _ _ (rdW_d w)
  have f0 : w2.frozen? ⟨w.heap.size, 0, none⟩ = false := (Below.frozen (p := ⟨w.heap.size, 0, none⟩) (X1.out.trans x2) (by show w.heap.size < _; omega)).trans (rdW_f w)
  have f1 : w2.frozen? ⟨w.heap.size + 1, 0, none⟩ = false := (Below.frozen (p := ⟨w.heap.size + 1, 0, none⟩) (X1.out.trans x2) (by show w.heap.size + 1 < _; omega)).trans (rdW_g w)
  have X2 := Lib.hid (X1.out.trans x2); have X12 := Lib.hid x2; clear x2
  go_wp2
  have ho2 := own_ext HO.out X12.out
  have ho3 := (ho2.kept (rs_set w2 w.heap.size 0 (.slice A t.size c)) (by
    cases hb : Value.ownBlock (.slice A t.flat.length c) with
    | none => exact .inl rfl
    | some b => exact .inr (fun e => by have := (ho2.lt b hb).1; injection e with e; omega)))
  have ho4 := (ho3.kept (rs_set _ (w.heap.size + 1) 0 (I 0)) (by
    cases hb : Value.ownBlock (.slice A t.flat.length c) with
    | none => exact .inl rfl
    | some b => exact .inr (fun e => by have := (ho2.lt b hb).1; injection e with e; omega)))
  rw [flat_size] at ho4
  obtain ⟨A', c', hv, -, -, hsl⟩ := own_nodes ho4
  injection hv with hv1 _ _
  subst hv1
  refine rdoor_ok _ (.inl rfl) _ ⟨w.heap.size, 0, none⟩ ⟨w.heap.size + 1, 0, none⟩ (.slice A t.size c) (I 0) _ _ ?_ ?_ rfl rfl ⟨A, c, rfl, hsl, HNC.out, HCM.out, ?_⟩
  · exact (World.cell?_setCell_other _ _ _ _ (by simp)).trans (World.cell?_setCell_same _ _ _ e0)
  · exact World.cell?_setCell_same _ _ _ ((World.cell?_setCell_other _ _ _ _ (by simp)).trans e1)
  · exact (((rdW_ext w).trans X2.out).setCell (by exact Nat.le_refl _) _).setCell (by exact Nat.le_succ _) _
end Go.Proofs.YtgohhcnmkomafaaDoor
