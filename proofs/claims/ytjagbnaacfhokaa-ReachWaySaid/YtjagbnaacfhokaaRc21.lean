/- The reference's NeedsOf walked. -/
import Derived.Test.YtjagbnaacfhokaaRc20
import Derived.Test.YtjagbnaacfhokaaRc02
namespace Go.Proofs.Ytjagbnaacfhokaa
set_option linter.unusedVariables false
set_option linter.unusedSimpArgs false
open Go.RowKit

theorem roundsM_at {gs : List GateM} {n k : Nat} {o : List Bool} (hk : k < n) : roundsM gs (n - k) o = roundsM gs (n - (k + 1)) (roundM gs o) := by
  rw [show n - k = (n - (k + 1)) + 1 from by omega]; rfl
theorem roundFrom_cons (g : GateM) (l : List GateM) (k : Nat) (o : List Bool) : roundFrom (g :: l) k o = roundFrom l (k + 1) (if onI o k then markM o g.args else o) := rfl
theorem flag_at {o : List Bool} {k : Nat} (h : k < o.length) : o[k]? = some (onI o (k : Int)) := by simp [onI, h]
theorem own_flag {w : World} {base : Nat} {e : TypeId} {g n c : Nat} {o : List Bool} (h : w.ownsRow base e 1 (.slice (some ⟨g, 0, none⟩) n c) n (o.map Bv)) {k : Nat} (hk : k < n) :
    w.cell? ⟨g, k, none⟩ = some (Bv (onI o (k : Int))) ∧ w.frozen? ⟨g, k, none⟩ = false ∧ o.length = n := by
  have hl : o.length = n := by have := h.1; simpa using this
  refine ⟨?_, h.frozenAt k, hl⟩
  rw [h.cellAt k (by omega), List.getElem?_map, flag_at (by omega)]; rfl

set_option maxRecDepth 100000 in
set_option maxHeartbeats 8000000 in
theorem needsOf_any (i : Int) (GA : Option Addr) (gn gc : Nat) (RA : Option Addr) (rn rc : Nat) (OA : Option Addr) (on oc : Nat) (N : NetM) (A : Option Addr) (n c : Nat) (l : List Int) (w : World)
    (h : NetC w i GA gn gc RA rn rc OA on oc N) (hs : Sl w A n (l.map I)) (ok : NetOK N) (hl : inR N.gates.length l) (hn : n ≤ maxLen) :
    Calls Try.prog 115 #[netV i GA gn gc RA rn rc OA on oc, .slice A n c] w fun e w' => ∃ v, e = .returned v ∧ w'.ownsRow w.heap.size 4 1 v gn ((needsM N.gates l).map Bv) ∧ Ext w w' := by
  have hgl : N.gates.length = gn := h.gates.1
  have hg200 : gn ≤ 200 := by rw [← hgl]; exact ok.gl
  unfold maxLen at hn
  have hmk := fun W => run_make1 (P := Try.prog) 27 4 tab_bool Try.underlying27 rfl gn (by omega) (by omega) W
  have HN := Lib.hid h; have HS := Lib.hid hs; have HOK := Lib.hid ok; have HL := Lib.hid hl; have HGL := Lib.hid hgl
  clear h hs ok hl hgl
  obtain ⟨W, hW⟩ : ∃ W, W = w.alloc (.cells #[I i, .slice GA gn gc, .slice RA rn rc, .slice OA on oc] 26) := ⟨_, rfl⟩
  have hxW : Ext w W := by rw [hW]; exact (Ext.refl _).alloc _
  have hsW : W.heap.size = w.heap.size + 1 := by rw [hW]; simp
  have HBox : Hid (NetBox W w.heap.size i GA gn gc RA rn rc OA on oc) := by unfold Hid; rw [hW]; exact NetBox.new w i GA gn gc RA rn rc OA on oc _
  have HW := Lib.hid hW; have HSW := Lib.hid hsW; clear hW hsW
  obtain ⟨w1, hw1⟩ : ∃ w1, w1 = W.alloc (.cells (zeros (.bool false) gn) 4) := ⟨_, rfl⟩
  have hxa : Ext W w1 := by rw [hw1]; exact (Ext.refl W).alloc _
  have hB : w1.ownsRow W.heap.size 4 1 (.slice (some ⟨w.heap.size + 1, 0, none⟩) gn gn) gn ((List.replicate gn false).map Bv) := by
    rw [hw1, ← HSW.out]; have := own_made W 4 (.bool false) gn W.heap.size (Nat.le_refl _) (by unfold maxLen; omega); simpa using this
  have HB := Lib.hid hB; have HW1 := Lib.hid hw1; clear hB hw1
  go_enter Try.func115, Try.ntmps115
  go_wp2
  rw [← HW.out, ← HW1.out]
  go_loopw [6] (fun j wr => ∃ (k : Nat) (o : List Bool), k ≤ n ∧ j = .int .i64 k ∧ Ext W wr ∧ wr.ownsRow W.heap.size 4 1 (.slice (some ⟨w.heap.size + 1, 0, none⟩) gn gn) gn (o.map Bv) ∧ markM o (l.drop k) = markM (List.replicate gn false) l) (fun j _ => n - (intOf j).toNat)
  case atStart => exact ⟨0, _, Nat.zero_le _, rfl, hxa, HB.out, rfl⟩
  case round =>
    obtain ⟨k, o, hk, rfl, hext, hown, hM⟩ := hrel
    by_cases hlt : k < n
    · obtain ⟨b, off, x, rfl, hc0, hd⟩ := HS.out.next hlt
      have hc := (hxW.trans hext).keeps _ _ hc0
      have hxr := HL.out x (by have : x ∈ l.drop k := by rw [hd]; simp
                               exact List.mem_of_mem_drop this)
      rw [HGL.out] at hxr
      obtain ⟨xn, rfl⟩ := Int.eq_ofNat_of_zero_le hxr.1
      have hxn : xn < gn := by omega
      obtain ⟨hcu, hfz, hol⟩ := own_flag hown hxn
      rw [hd] at hM
      have hst := hown.stored xn (Bv true)
      have HM := Lib.hid hM; have HST := Lib.hid hst; have HX := Lib.hid (hext.setCell (p := ⟨w.heap.size + 1, xn, none⟩) (by have := HSW.out; show W.heap.size ≤ w.heap.size + 1; omega) (Bv true))
      clear hM hd hc0 hown hst hol hext hxr
      go_wp2
      go_roundw
      case rel => exact ⟨k + 1, o.set xn true, by omega, by go_num, HX.out, by have := HST.out.1; simpa [List.map_set] using this, by rw [← HM.out]; simp [markM]⟩
      case measure => simp [intOf]; omega
    · rw [HS.out.drop_end hlt] at hM
      have hM : o = markM (List.replicate gn false) l := hM
      have HM : Hid (roundsM N.gates (gn - 0) o = needsM N.gates l) := by unfold Hid needsM; rw [hM, HGL.out, Nat.sub_zero]
      have HO := Lib.hid hown; have HX := Lib.hid hext
      clear hM hown hext
      go_wp2
      go_loopw [7, 8, 9] (fun j _ _ wr => ∃ (k : Nat) (o : List Bool), k ≤ gn ∧ j = .int .i64 k ∧ Ext W wr ∧ wr.ownsRow W.heap.size 4 1 (.slice (some ⟨w.heap.size + 1, 0, none⟩) gn gn) gn (o.map Bv) ∧ roundsM N.gates (gn - k) o = needsM N.gates l) (fun j _ _ _ => gn - (intOf j).toNat)
      case atStart => exact ⟨0, o, Nat.zero_le _, rfl, HX.out, HO.out, HM.out⟩
      case round =>
        clear HM HO HX
        obtain ⟨k2, o2, hk2, rfl, hext, hown, hM⟩ := hrel
        obtain ⟨q0, q1, q2, q3⟩ := HBox.out.keep hext.keeps
        by_cases hlt2 : k2 < gn
        · rw [roundsM_at hlt2] at hM
          have HM := Lib.hid hM; have HO := Lib.hid hown; have HX := Lib.hid hext
          clear hM hown hext
          go_wp2
          clear q0 q1 q2 q3
          obtain ⟨wo, rfl⟩ : ∃ wo : World, wo = wr := ⟨_, rfl⟩
          go_loopw [8, 9] (fun j _ wr => ∃ (k : Nat) (o : List Bool), k ≤ gn ∧ j = .int .i64 k ∧ Ext W wr ∧ wr.ownsRow W.heap.size 4 1 (.slice (some ⟨w.heap.size + 1, 0, none⟩) gn gn) gn (o.map Bv) ∧ roundFrom (N.gates.drop k) k o = roundM N.gates o2) (fun j _ _ => gn - (intOf j).toNat)
          case atStart => exact ⟨0, o2, Nat.zero_le _, rfl, HX.out, HO.out, rfl⟩
          case round =>
            clear HO HX
            obtain ⟨k3, o3, hk3, rfl, hext, hown, hM3⟩ := hrel
            obtain ⟨q0, q1, q2, q3⟩ := HBox.out.keep hext.keeps
            by_cases hlt3 : k3 < gn
            · obtain ⟨b, off, A', m, c', g, rfl, g0, g1, g2, hsg, hmc, hcm, hd, hgx⟩ := HN.out.gates.next hlt3
              have hml := hsg.len
              have hm16 : m ≤ 16 := by have := HOK.out.al g (List.mem_of_getElem? hgx); omega
              have hra := HOK.out.args g (List.mem_of_getElem? hgx)
              rw [hd, roundFrom_cons] at hM3
              have HM3 := Lib.hid hM3; have HO := Lib.hid hown; have HX := Lib.hid hext; have HSG := Lib.hid hsg; have HRA := Lib.hid hra; have HG2 := Lib.hid g2
              clear hM3 hown hext hsg hra hd hgx g0 g1 g2 hmc hcm hml
              go_wp2
              clear q0 q1 q2 q3
              obtain ⟨wp, rfl⟩ : ∃ wp : World, wp = wr := ⟨_, rfl⟩
              go_loopw [9] (fun j wr => ∃ (q : Nat) (o : List Bool), q ≤ m ∧ j = .int .i64 q ∧ Ext W wr ∧ wr.ownsRow W.heap.size 4 1 (.slice (some ⟨w.heap.size + 1, 0, none⟩) gn gn) gn (o.map Bv) ∧ (if onI o k3 then markM o (g.args.drop q) else o) = (if onI o3 k3 then markM o3 g.args else o3)) (fun j _ => m - (intOf j).toNat)
              case atStart => exact ⟨0, o3, Nat.zero_le _, rfl, HX.out, HO.out, rfl⟩
              case round =>
                clear HO HX
                obtain ⟨q, o4, hq, rfl, hext, hown, hM4⟩ := hrel
                obtain ⟨q0, q1, q2, q3⟩ := HBox.out.keep hext.keeps
                have c2 := (hxW.trans hext).keeps _ _ HG2.out
                obtain ⟨hcu, hfz, hol⟩ := own_flag hown hlt3
                by_cases hltq : q < m
                · cases hon : onI o4 (k3 : Int)
                  · rw [hon] at hM4 hcu
                    have HM4 := Lib.hid hM4; have HO := Lib.hid hown; have HX := Lib.hid hext; clear hM4 hown hext hon hol
                    go_wp2
                    go_roundw
                    case rel => exact ⟨k3 + 1, o4, by omega, by go_num, HX.out, HO.out, by rw [← HM3.out, ← HM4.out]; simp⟩
                    case measure => simp [intOf]; omega
                  · rw [hon] at hM4 hcu
                    obtain ⟨b', off', x, rfl, ca0, hdq⟩ := HSG.out.next hltq
                    have ca := (hxW.trans hext).keeps _ _ ca0
                    have hxr := HRA.out x (by have : x ∈ g.args.drop q := by rw [hdq]; simp
                                              exact List.mem_of_mem_drop this)
                    rw [HGL.out] at hxr
                    obtain ⟨xn, rfl⟩ := Int.eq_ofNat_of_zero_le hxr.1
                    have hxn : xn < gn := by omega
                    obtain ⟨hcx, hfx, _⟩ := own_flag hown hxn
                    have hst := hown.stored xn (Bv true)
                    have hon2 : onI (o4.set xn true) (k3 : Int) = true := by
                      have := onI_set o4 xn k3 (by omega) (by omega) (by omega); rw [Int.toNat_natCast] at this; rw [this, hon]; rfl
                    rw [hdq] at hM4
                    have HM4 := Lib.hid hM4; have HST := Lib.hid hst; have HON := Lib.hid hon2
                    have HX := Lib.hid (hext.setCell (p := ⟨w.heap.size + 1, xn, none⟩) (by have := HSW.out; show W.heap.size ≤ w.heap.size + 1; omega) (Bv true))
                    clear hM4 hown hst hext hon hol hon2 hdq ca0 hxr
                    go_wp2
                    go_roundw
                    case rel => exact ⟨q + 1, o4.set xn true, by omega, by go_num, HX.out, by have := HST.out.1; simpa [List.map_set] using this, by rw [HON.out, ← HM4.out]; simp [markM]⟩
                    case measure => simp [intOf]; omega
                · rw [HSG.out.drop_end hltq] at hM4
                  have hM4' : o4 = (if onI o3 k3 then markM o3 g.args else o3) := by
                    rw [← hM4]; simp [markM]
                  have HM4 := Lib.hid hM4'; have HO := Lib.hid hown; have HX := Lib.hid hext; clear hM4 hM4' hown hext hol
                  go_wp2
                  go_roundw
                  case rel => exact ⟨k3 + 1, o4, by omega, by go_num, HX.out, HO.out, by rw [← HM3.out, ← HM4.out]⟩
                  case measure => simp [intOf]; omega
            · rw [HN.out.gates.drop_end hlt3] at hM3
              have HM3 := Lib.hid hM3; have HO := Lib.hid hown; have HX := Lib.hid hext; clear hM3 hown hext
              go_wp2
              go_roundw
              case rel => exact ⟨k2 + 1, o3, by omega, by go_num, HX.out, HO.out, by rw [← HM.out, ← HM3.out]; rfl⟩
              case measure => simp [intOf]; omega
        · have hkn : k2 = gn := by omega
          subst hkn
          have hM' : o2 = needsM N.gates l := by rw [← hM, Nat.sub_self]; rfl
          have HM := Lib.hid hM'; have HO := Lib.hid hown; have HX := Lib.hid hext; clear hM hM' hown hext
          go_wp2
          go_ret
          refine ⟨_, rfl, ?_, hxW.trans HX.out⟩
          rw [← HM.out]; exact own_base HO.out hxW.size
end Go.Proofs.Ytjagbnaacfhokaa
/- Memory that is laid as literals, one block behind the other. No program in sight. -/
namespace Go.Proofs.Ytjagbnaacfhokaa
set_option linter.unusedVariables false
set_option linter.unusedSimpArgs false
open Go.RowKit

def allocs (w : World) (os : List Obj) : World := os.foldl World.alloc w
theorem allocs_snoc (w : World) (os : List Obj) (o : Obj) : allocs w (os ++ [o]) = (allocs w os).alloc o := by simp [allocs]
theorem allocs_size (os : List Obj) : ∀ w : World, (allocs w os).heap.size = w.heap.size + os.length := by
  induction os with
  | nil => intro w; rfl
  | cons o os ih => intro w; have := ih (w.alloc o); simp only [allocs, List.foldl_cons] at *; rw [this]; simp; omega
theorem allocs_ext (os : List Obj) : ∀ w : World, Ext w (allocs w os) := by
  induction os with
  | nil => intro w; exact Ext.refl w
  | cons o os ih => intro w; exact ((Ext.refl w).alloc o).trans (ih (w.alloc o))
theorem allocs_heap (os : List Obj) : ∀ (w : World) (j : Nat), (allocs w os).heap[w.heap.size + j]? = os[j]? := by
  induction os with
  | nil => intro w j; show w.heap[w.heap.size + j]? = _; rw [Array.getElem?_eq_none (by omega)]; rfl
  | cons o os ih =>
    intro w j
    have hs : (w.alloc o).heap.size = w.heap.size + 1 := World.size_alloc ..
    cases j with
    | zero =>
      have hb : (allocs (w.alloc o) os).heap[w.heap.size]? = (w.alloc o).heap[w.heap.size]? := (allocs_ext os (w.alloc o)).block w.heap.size (by omega)
      show (allocs (w.alloc o) os).heap[w.heap.size]? = some o
      rw [hb]; exact heap_alloc_new w o
    | succ j =>
      have := ih (w.alloc o) j
      rw [hs] at this
      show (allocs (w.alloc o) os).heap[w.heap.size + (j + 1)]? = os[j]?
      rw [← this]; congr 1; omega
theorem allocs_cell {w : World} {os : List Obj} {j : Nat} {cs : Array Value} {T : TypeId} {fr : Nat × Nat} (h : os[j]? = some (.cells cs T fr)) (off : Nat) : (allocs w os).cell? ⟨w.heap.size + j, off, none⟩ = cs[off]? := by
  have := allocs_heap os w j
  rw [h] at this
  exact cell_of_row _ _ _ _ _ _ this
theorem allocs_free {w : World} {os : List Obj} {j : Nat} {cs : Array Value} {T : TypeId} (h : os[j]? = some (.cells cs T)) (off : Nat) : (allocs w os).frozen? ⟨w.heap.size + j, off, none⟩ = false := by
  have := allocs_heap os w j
  rw [h] at this
  exact frozen_of_row _ _ _ _ _ this
theorem push_modify {α : Type} (a : Array α) (x : α) (i : Nat) (f : α → α) : (a.push x).modify i f = if i = a.size then a.push (f x) else (a.modify i f).push x := by
  apply Array.ext_getElem?
  intro j
  by_cases e : i = a.size
  · subst e
    rw [if_pos rfl]
    simp only [Array.getElem?_modify, Array.getElem?_push]
    by_cases h : j = a.size
    · subst h; simp
    · have : ¬ a.size = j := fun q => h q.symm
      simp [h, this]
  · rw [if_neg e]
    simp only [Array.getElem?_modify, Array.getElem?_push, Array.size_modify]
    by_cases h : j = a.size
    · subst h; simp [e]
    · simp [h]
theorem alloc_set (w : World) (o : Obj) (m off : Nat) (v : Value) (hm : m < w.heap.size) : (w.alloc o).setCell ⟨m, off, none⟩ v = (w.setCell ⟨m, off, none⟩ v).alloc o := by
  unfold World.setCell World.alloc
  dsimp only
  rw [push_modify, if_neg (by omega)]
theorem allocs_set {w : World} {os : List Obj} {j : Nat} {cs : Array Value} {T : TypeId} {fr : Nat × Nat} (h : os[j]? = some (.cells cs T fr)) (off : Nat) (v : Value) :
    ∀ {m : Nat}, m = w.heap.size + j → (allocs w os).setCell ⟨m, off, none⟩ v = allocs w (os.set j (.cells (cs.setIfInBounds off v) T fr)) := by
  induction os generalizing w j with
  | nil => simp at h
  | cons o os ih =>
    intro m hm
    have hs : (w.alloc o).heap.size = w.heap.size + 1 := World.size_alloc ..
    have gen : ∀ (os : List Obj) (a b : World), a = b → allocs a os = allocs b os := fun os a b e => by rw [e]
    cases j with
    | zero =>
      simp at h
      subst h
      have hset : ∀ (os : List Obj) (W : World), m < W.heap.size → (allocs W os).setCell ⟨m, off, none⟩ v = allocs (W.setCell ⟨m, off, none⟩ v) os := by
        intro os
        induction os with
        | nil => intro W _; rfl
        | cons o' os ih2 =>
          intro W hW
          have := ih2 (W.alloc o') (by rw [World.size_alloc]; omega)
          show (allocs (W.alloc o') os).setCell _ _ = allocs ((W.setCell ⟨m, off, none⟩ v).alloc o') os
          rw [this, alloc_set _ _ _ _ _ hW]
      show (allocs (w.alloc (.cells cs T fr)) os).setCell ⟨m, off, none⟩ v = allocs (w.alloc (.cells (cs.setIfInBounds off v) T fr)) os
      rw [hset os _ (by rw [hs]; omega)]
      congr 1
      subst hm
      unfold World.setCell World.alloc
      dsimp only
      rw [push_modify, if_pos (by simp)]; rfl
    | succ j =>
      show (allocs (w.alloc o) os).setCell ⟨m, off, none⟩ v = allocs (w.alloc o) (os.set j _)
      exact ih (w := w.alloc o) (j := j) (by simpa using h) (by rw [hs]; omega)
theorem Sl.lit {w : World} {os : List Obj} {j : Nat} {cs : List Value} {T : TypeId} {fr : Nat × Nat} (h : os[j]? = some (.cells cs.toArray T fr)) {m : Nat} (hm : m = w.heap.size + j) : Sl (allocs w os) (some ⟨m, 0, none⟩) cs.length cs :=
  ⟨rfl, fun k u hu => ⟨m, 0, rfl, by subst hm; rw [allocs_cell h, Nat.zero_add]; simpa using hu⟩⟩
end Go.Proofs.Ytjagbnaacfhokaa
