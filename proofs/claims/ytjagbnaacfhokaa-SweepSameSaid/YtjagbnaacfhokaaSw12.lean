/- What sweep calls of Go's library: stores cloned, a number repeated, rows one behind the other; boxes of the call's own. -/
import Derived.Test.YtjagbnaacfhokaaSw11
import Derived.Laws.CopyOwn
import Derived.Deep.RegionLaw
import Derived.Test.YtjagbnaacfhokaaSw03
import Derived.Test.YtjagbnaacfhokaaSw05
namespace Go.Proofs.Ytjagbnaacfhokaa
set_option linter.unusedVariables false
set_option linter.unusedSimpArgs false
open Go.RowKit

/-- A block of the call's own that holds these cells. -/
def Box (w : World) (b : Nat) (T : TypeId) (cs : List Value) : Prop := w.heap[b]? = some (.cells cs.toArray T (0, 0))
section
variable {w w' : World} {b : Nat} {T : TypeId} {cs : List Value}
theorem Box.lt (h : Box w b T cs) : b < w.heap.size := (Array.getElem?_eq_some_iff.1 h).1
theorem Box.cell (h : Box w b T cs) (k : Nat) : w.cell? ⟨b, k, none⟩ = cs[k]? := by rw [cell_of_row w b k cs.toArray T (0, 0) h]; simp
theorem Box.free (h : Box w b T cs) (k : Nat) : w.frozen? ⟨b, k, none⟩ = false := frozen_of_row w b k cs.toArray T h
theorem Box.ext (h : Box w b T cs) (hx : Ext w w') : Box w' b T cs := (hx.block b h.lt).trans h
theorem Box.set (h : Box w b T cs) (k : Nat) (u : Value) : Box (w.setCell ⟨b, k, none⟩ u) b T (cs.set k u) := by
  have := heap_setCell_same w b k cs.toArray T u h
  unfold Box; rw [this]; simp
theorem Box.kept {row : Option Nat} (h : Box w b T cs) (hg : w.grownBy w' row) (hne : row ≠ some b) : Box w' b T cs :=
  (hg.block b h.lt (fun e => hne e.symm)).trans h
theorem Box.new (w : World) (cs : List Value) (T : TypeId) : Box (w.alloc (.cells cs.toArray T)) w.heap.size T cs := heap_alloc_new w _
theorem Box.apart (h : Box w b T cs) {base : Nat} {e : TypeId} {size n : Nat} {v : Value} {xs : List Value} (ho : w.ownsRow base e size v n xs) (hne : e ≠ T) : v.ownBlock ≠ some b := by
  rcases ho.2 with ⟨rfl, _⟩ | ⟨g, cap, cur, rfl, _, hg, _⟩
  · simp [Value.ownBlock]
  · intro e1
    have e2 : g = b := Option.some.inj e1
    subst e2
    rw [h] at hg; injection hg with hg; injection hg with _ h3 _
    exact hne h3.symm
theorem own_set {base : Nat} {e : TypeId} {size n : Nat} {v : Value} {xs : List Value} (ho : w.ownsRow base e size v n xs) (hb : v.ownBlock ≠ some b) (k : Nat) (u : Value) : (w.setCell ⟨b, k, none⟩ u).ownsRow base e size v n xs := own_other ho hb
end

/-- Cells that stand behind one another from a slice's head on. -/
def SlC (w : World) (A : Option Addr) (cs : List Value) : Prop := ∀ (j : Nat) u, cs[j]? = some u → ∃ b off, A = some ⟨b, off, none⟩ ∧ w.cell? ⟨b, off + j, none⟩ = some u
theorem SlC.keep {w w' : World} {A : Option Addr} {cs : List Value} (h : SlC w A cs) (hk : Keeps w w') : SlC w' A cs :=
  fun j u hu => let ⟨b, o, e, hc⟩ := h j u hu; ⟨b, o, e, hk _ _ hc⟩
/-- append of all of a slice of elements of some cells onto a row of the call's own. -/
theorem wpList_appendC {P : Program} {ops : Array Oper} {rest : List Oper} {o : Oper} {a : Act} {Q : Exit → Act → World → Prop} {w : World} (hgd : o.guard = none) (s x : Operand) (t e : TypeId)
    (ho : o.op = .call { callee := .builtin .append, args := #[s, x], argTypes := #[t, t] })
    {z : Value} {size bytes : Nat} (tab : (P.info? e).map (fun i => (i.zero, i.size, i.bytes)) = some (some z, size, bytes)) (ht : P.underlying t = some (.slice e)) (hzs : z.cells.size = size) (hsz : 0 < size)
    (W0 : World) (hext : Ext W0 w) (v : Value) (n : Nat) (xs : List Value) (hs : a.eval s = v) (hown : w.ownsRow W0.heap.size e size v n xs)
    (A : Option Addr) (m c : Nat) (news : List Value) (hx : a.eval x = .slice A m c) (hl : news.length = m * size) (hr : SlC w A news) (h1 : ∀ u ∈ news, u.oneCell' = true)
    (h63 : n + m ≤ maxLen) (hbytes : (n + m) * bytes ≤ 140737488355328)
    (h : ∀ v' w', w'.ownsRow W0.heap.size e size v' (n + m) (xs ++ news) → Ext W0 w' → w.grownBy w' v.ownBlock → wpList P ops Q rest (a.put o.dst v') w') : wpList P ops Q (o :: rest) a w := by
  obtain ⟨i, hi, hz, hs1, hs2⟩ := info_parts tab
  have hb : ∀ k, v.ownBlock = some k → W0.heap.size ≤ k := fun k hk => (hown.lt k hk).1
  cases A with
  | none =>
    have hm : m = 0 := by
      rcases Nat.eq_zero_or_pos m with e | e
      · exact e
      · have hl : 0 < news.length := by rw [hl]; exact Nat.mul_pos e hsz
        obtain ⟨b, off, e2, _⟩ := hr 0 _ (List.getElem?_eq_getElem hl)
        cases e2
    subst hm
    have hn : news = [] := List.eq_nil_of_length_eq_zero (by simpa using hl)
    subst hn
    refine wpList_plain hgd fun K hK => ?_
    unfold Oper.wp execOp
    simp only [ho, resolve, invoke, builtin, Sem.run_bind, Sem.run_pure, Result.andThen_ok, List.map_toArray, List.map_cons, List.map_nil, hs, hx, append_of_nil (P := P) w W0.heap.size t o.type e i size ht hi v n xs hown c]
    exact hK _ _ (h v w (by simpa using hown) hext (World.grownBy.refl w _))
  | some ad =>
    have hcells : ∀ j u, news[j]? = some u → w.cell? (ad.add j) = some u := by
      intro j u hu
      obtain ⟨b, off, e2, hc⟩ := hr j u hu
      injection e2 with e2
      subst e2
      rw [add_plain']; exact hc
    refine wpList_append_own _ hgd s x t ho W0.heap.size e i z size bytes ht hi hz hs1 hs2 hzs hsz v n xs hs hown ad m c news hx hl hcells h1 h63 hbytes hext.size ?_
    intro v' w' hown' hg _
    exact h v' w' hown' (Below.grown hext hg hext.size hb) hg

def storeCs (rs : List StoreM) : List Value := rs.flatMap fun r => [RB r, RN r]
theorem storeCs_len (rs : List StoreM) : (storeCs rs).length = rs.length * 2 := by
  unfold storeCs
  induction rs with
  | nil => rfl
  | cons r rs ih => simp only [List.flatMap_cons, List.length_append, List.length_cons, List.length_nil, ih]; omega
theorem storeCs_one (rs : List StoreM) : ∀ u ∈ storeCs rs, u.oneCell' = true := by
  intro u hu
  obtain ⟨r, _, hr⟩ := List.mem_flatMap.1 hu
  simp at hr
  rcases hr with rfl | rfl <;> rfl
theorem slR_cells {w : World} {A : Option Addr} {n : Nat} {rs : List StoreM} (h : SlR w A n rs) : SlC w A (storeCs rs) := by
  intro j u hu
  have hl := storeCs_len rs
  have hj := (List.getElem?_eq_some_iff.1 hu).1
  have hk : j / 2 < rs.length := by omega
  obtain ⟨b, off, e, h0, h1⟩ := h.2 (j / 2) _ (List.getElem?_eq_getElem hk)
  have hf := flat2_get RB RN rs (j / 2)
  rw [List.getElem?_eq_getElem hk] at hf
  refine ⟨b, off, e, ?_⟩
  rcases Nat.mod_two_eq_zero_or_one j with q | q
  · have ej : j / 2 * 2 = j := by omega
    rw [ej] at h0 hf
    unfold storeCs at hu; rw [hf.1] at hu
    rw [h0]; simpa using hu
  · have ej : j / 2 * 2 + 1 = j := by omega
    rw [Nat.add_assoc, ej] at h1
    rw [ej] at hf
    unfold storeCs at hu; rw [hf.2] at hu
    rw [h1]; simpa using hu
theorem slR_own {w : World} {base : Nat} {A : Option Addr} {n c : Nat} {rs : List StoreM} (h : w.ownsRow base 78 2 (.slice A n c) n (storeCs rs)) : SlR w A n rs := by
  have hl : rs.length = n := by have := h.1; rw [storeCs_len] at this; omega
  obtain ⟨A', c', e, -, -, hc⟩ := own_slice h
  injection e with e _ _; subst e
  refine ⟨hl, fun k r hr => ?_⟩
  have hf := flat2_get RB RN rs k
  rw [hr] at hf
  obtain ⟨b, off, e1, c1⟩ := hc _ _ hf.1
  obtain ⟨b', off', e2, c2⟩ := hc _ _ hf.2
  rw [e1] at e2; injection e2 with e2; injection e2 with e2 e3; subst e2; subst e3
  exact ⟨b, off, e1, c1, c2⟩
theorem tab_store : (Try.prog.info? 78).map (fun i => (i.zero, i.size, i.bytes)) = some (some (.agg #[.bool false, .int .i64 0]), 2, 16) := by kernel_rfl
/-- slices.Clone of stores: a row of the call's own. -/
theorem cloneStores_any (A : Option Addr) (n c : Nat) (rs : List StoreM) (w : World) (h : SlR w A n rs) (hn : n ≤ 1000000) :
    Calls Try.prog 105 #[.slice A n c] w fun e w' => ∃ v, e = .returned v ∧ w'.ownsRow w.heap.size 78 2 v n (storeCs rs) ∧ Ext w w' := by
  have hnil := fun W a l c => Lib.run_eql_slice_nil (P := Try.prog) W 23 78 a l c 0 0 Try.underlying23
  cases A with
  | none =>
    have hm : n = 0 := by
      rcases Nat.eq_zero_or_pos n with e | e
      · exact e
      · obtain ⟨b, off, x, e2, _⟩ := h.next e; cases e2
    subst hm
    have hx : rs = [] := List.eq_nil_of_length_eq_zero h.1
    subst hx
    go_enter Try.func105, Try.ntmps105
    go_wp2
    go_ret
    exact ⟨_, rfl, World.ownsRow_nil _ _ _ _, Ext.refl _⟩
  | some ad =>
    have H := Lib.hid (h.keep (Keeps.alloc w (.cells #[] 78))); clear h
    go_enter Try.func105, Try.ntmps105
    go_wp2_with (at_builtin; refine wpList_appendC rfl (.tmp 5) (.tmp 6) 23 78 rfl tab_store Try.underlying23 rfl (by omega) w ((Ext.refl w).alloc _) _ 0 [] rfl (own_empty w _ _ _ (Nat.le_refl _)) (some ad) n c (storeCs rs) rfl (by rw [storeCs_len, H.out.1]) (slR_cells H.out) (storeCs_one rs) (by unfold maxLen; omega) (by omega) ?_; intro v' w2 hown2 hx3 _)
    go_ret
    exact ⟨_, rfl, by simpa using hown2, hx3⟩
end Go.Proofs.Ytjagbnaacfhokaa
/- slices.Repeat of one number; Fold's closure; a gate of the call's own. -/
namespace Go.Proofs.Ytjagbnaacfhokaa
set_option linter.unusedVariables false
set_option linter.unusedSimpArgs false
open Go.RowKit

set_option maxRecDepth 100000 in
set_option maxHeartbeats 2000000 in
theorem mul64_one (n : Nat) (w : World) (hn : n ≤ 20) :
    Calls Try.prog 138 #[.int .u64 1, .int .u64 n] w fun e w' => e = .returned (Pr (.int .u64 0) (.int .u64 n)) ∧ w' = w := by
  have h1 : bits .and .u64 (n : Int) 4294967295 = n := by
    have : n = 0 ∨ n = 1 ∨ n = 2 ∨ n = 3 ∨ n = 4 ∨ n = 5 ∨ n = 6 ∨ n = 7 ∨ n = 8 ∨ n = 9 ∨ n = 10 ∨ n = 11 ∨ n = 12 ∨ n = 13 ∨ n = 14 ∨ n = 15 ∨ n = 16 ∨ n = 17 ∨ n = 18 ∨ n = 19 ∨ n = 20 := by omega
    rcases this with rfl | rfl | rfl | rfl | rfl | rfl | rfl | rfl | rfl | rfl | rfl | rfl | rfl | rfl | rfl | rfl | rfl | rfl | rfl | rfl | rfl <;> decide
  have HN := Lib.hid hn
  clear hn
  go_enter Try.func138, Try.ntmps138
  go_wp2
  have hn := HN.out
  have e1 : bits .and .u64 1 4294967295 = 1 := by decide
  have e2 : IntKind.u64.wrap (n : Int) = n := by rw [IntKind.wrap_u64]; omega
  have e3 : (n : Int) / 4294967296 = 0 := by omega
  have e4 : IntKind.u64.wrap 0 = 0 := by decide
  have e5 : bits .and .u64 0 4294967295 = 0 := by decide
  refine bodyPost_ret (v := Pr (.int .u64 0) (.int .u64 n)) ?_ rfl ⟨rfl, rfl⟩
  simp [results, Try.results138, go_sem, e1, e2, e3, e4, e5]
set_option maxHeartbeats 2000000 in
theorem mul_one' (n : Nat) (w : World) (hn : n ≤ 20) :
    Calls Try.prog 129 #[.int .u64 1, .int .u64 n] w fun e w' => e = .returned (Pr (.int .u64 0) (.int .u64 n)) ∧ w' = w := by
  have HN := Lib.hid hn
  clear hn
  go_enter Try.func129, Try.ntmps129
  go_wp2_with fail
  refine (mul64_one n w HN.out).mono ?_; rintro e w' ⟨rfl, rfl⟩
  go_wp2
  exact bodyPost_ret (v := Pr (.int .u64 0) (.int .u64 n)) (by simp [results, Try.results129, go_sem]) rfl ⟨rfl, rfl⟩

theorem zeros_rep (z : Value) (n : Nat) : zeros z n = (List.replicate n z).toArray := by
  apply Array.toList_inj.1; rw [zeros, toList_madeCells_one]
def fillL (n k : Nat) (x : Value) : List Value := List.replicate k x ++ List.replicate (n - k) (I 0)
theorem fill_len {n k : Nat} {x : Value} (h : k ≤ n) : (fillL n k x).length = n := by simp [fillL]; omega
theorem fill_zero (n : Nat) (x : Value) : fillL n 0 x = List.replicate n (I 0) := by simp [fillL]
theorem fill_all (n : Nat) (x : Value) : fillL n n x = List.replicate n x := by simp [fillL]
theorem fill_at {n k j : Nat} {x : Value} (h : j < k) : (fillL n k x)[j]? = some x := by
  unfold fillL; rw [List.getElem?_append_left (by simpa using h)]; simp [h]
theorem fill_splice {n k c : Nat} {x : Value} (h : k + c ≤ n) : splice (fillL n k x) k (List.replicate c x) = fillL n (k + c) x := by
  unfold splice fillL
  have e1 : (List.replicate k x ++ List.replicate (n - k) (I 0)).take k = List.replicate k x := by rw [List.take_left' (by simp)]
  have e2 : (List.replicate k x ++ List.replicate (n - k) (I 0)).drop (k + c) = List.replicate (n - (k + c)) (I 0) := by
    rw [List.drop_append, List.drop_eq_nil_of_le (by simp), List.nil_append, List.drop_replicate]; simp; try omega
  rw [List.length_replicate, e1, e2, ← List.append_assoc, List.replicate_append_replicate]
set_option maxRecDepth 100000 in
set_option maxHeartbeats 4000000 in
theorem repeat_any (b n : Nat) (x : Int) (w : World) (hc : w.cell? ⟨b, 0, none⟩ = some (I x)) (hn : n ≤ 20) :
    Calls Try.prog 104 #[.slice (some ⟨b, 0, none⟩) 1 1, I n] w fun e w' => ∃ v, e = .returned v ∧ w'.ownsRow w.heap.size 3 1 v n (List.replicate n (I x)) ∧ Ext w w' := by
  have hmk := fun Q => run_make1 (P := Try.prog) 24 3 tab_int' Try.underlying24 rfl n (by omega) (by omega) Q
  have hz : zeros (.int .i64 0) n = (List.replicate n (I 0)).toArray := zeros_rep _ _
  obtain ⟨Z, hZ⟩ : ∃ Z, Z = zeros (.int .i64 0) n := ⟨_, rfl⟩
  rw [← hZ] at hmk hz
  have e2 : IntKind.u64.wrap (n : Int) = n := by rw [IntKind.wrap_u64]; omega
  have e3 : IntKind.i64.wrap (n : Int) = n := IntWalk.i64_in _ (by omega)
  have hsz : (Try.prog.info? 3).map (·.size) = some 1 := by kernel_rfl
  obtain ⟨W, hW⟩ : ∃ W, W = w.alloc (.cells Z 3) := ⟨_, rfl⟩
  have hxW : Ext w W := by rw [hW]; exact (Ext.refl _).alloc _
  have hh : W.heap[w.heap.size]? = some (.cells (fillL n 0 (I x)).toArray 3 (0, 0)) := by rw [fill_zero, ← hz, hW]; exact heap_alloc_new w _
  have hcW := hxW.keeps _ _ hc
  have HH := Lib.hid hh; have HX := Lib.hid hxW; have HW := Lib.hid hW; have HC := Lib.hid hcW
  have HN := Lib.hid hn
  obtain ⟨C0, hC0⟩ : ∃ C0 : List Value, C0 = List.replicate (min 1 n) (I x) := ⟨_, rfl⟩
  have hC1 : Hid (C0.length = Nat.min 1 n) := by unfold Hid; rw [hC0]; simp
  have hC2 : Hid (∀ j v, C0[j]? = some v → W.cell? ((⟨b, 0, none⟩ : Addr).add j) = some v) := by
    intro j v hv
    rw [hC0, List.getElem?_replicate] at hv
    split at hv
    · have : j = 0 := by omega
      subst this
      injection hv with hv; subst hv
      rw [add_zero]; exact HC.out
    · cases hv
  have hC3 : Hid (∀ v ∈ C0, v.oneCell' = true) := by intro v hv; rw [hC0] at hv; rw [(List.mem_replicate.1 hv).2]; rfl
  have hC4 : Hid (splice (fillL n 0 (I x)) 0 C0 = fillL n (min 1 n) (I x)) := by unfold Hid; rw [hC0, fill_splice (by omega), Nat.zero_add]
  have hC5 : Hid (0 + C0.length ≤ (fillL n 0 (I x)).length) := by unfold Hid; rw [fill_len (by omega), hC0]; simp; omega
  have HC0 : Hid (C0.length = min 1 n) := hC1
  clear hC0 hh hxW hW hcW hz hZ hc
  go_enter Try.func104, Try.ntmps104
  go_wp2_with fail
  refine (mul_one' n w HN.out).mono ?_; rintro e w' ⟨rfl, rfl⟩
  go_upto_region 7 with fail
  rw [← HW.out]
  go_wp2_with (refine wpList_copy_splice rfl (.tmp 31) (.tmp 32) 24 24 rfl 3 Try.underlying24 hsz _ _ n n 1 1 rfl rfl w'.heap.size 0 (fillL n 0 (I x)) 3 HH.out C0 hC1.out (fun _ => ⟨rfl, _, rfl, hC2.out⟩) hC5.out hC3.out w'.heap.size w' HX.out (Nat.le_refl _) ?_; rw [hC4.out, HC0.out]; intro w2 HG2 hB2)
  have HB2 := Lib.hid hB2
  clear hB2 HH HW HX hC1 hC2 hC3 hC4 hC5 HC0 HC C0 hmk e2 e3
  go_loopw [8] (fun i wr => ∃ k : Nat, min 1 n ≤ k ∧ k ≤ n ∧ i = .int .i64 k ∧ Hid (wr.heap[w'.heap.size]? = some (.cells (fillL n k (I x)).toArray 3 (0, 0))) ∧ Ext w' wr) (fun i _ => n - (intOf i).toNat)
  case atStart => exact ⟨min 1 n, Nat.le_refl _, Nat.min_le_right _ _, rfl, HG2, HB2.out⟩
  case round =>
    obtain ⟨k, hk1, hk2, rfl, HG, hx⟩ := hrel
    by_cases hlt : k < n
    · obtain ⟨c, hc⟩ : ∃ c, c = min k (n - k) := ⟨_, rfl⟩
      have HX := Lib.hid hx
      obtain ⟨C, hC⟩ : ∃ C : List Value, C = List.replicate c (I x) := ⟨_, rfl⟩
      have hkp : 0 < k := by omega
      have HH : Hid (wr.heap[w'.heap.size]? = some (.cells (fillL n k (I x)).toArray 3 (0, 0))) := HG
      have hC1 : Hid (C.length = Nat.min k (n - k)) := by unfold Hid; rw [hC, List.length_replicate, hc]
      have hC2 : Hid (∀ j v, C[j]? = some v → wr.drew.cell? ((⟨w'.heap.size, 0, none⟩ : Addr).add j) = some v) := by
        intro j v hv
        rw [hC, List.getElem?_replicate] at hv
        split at hv
        · injection hv with hv; subst hv
          rw [add_zero]
          show wr.cell? _ = _
          rw [cell_of_row wr _ j _ _ _ HH.out, List.getElem?_toArray, fill_at (by omega)]
        · cases hv
      have hC3 : Hid (∀ v ∈ C, v.oneCell' = true) := by intro v hv; rw [hC] at hv; rw [(List.mem_replicate.1 hv).2]; rfl
      have hC4 : Hid (splice (fillL n k (I x)) k C = fillL n (k + c) (I x)) := by unfold Hid; rw [hC, fill_splice (by omega)]
      have hC5 : Hid (k + C.length ≤ (fillL n k (I x)).length) := by unfold Hid; rw [fill_len (by omega), hC]; simp; omega
      have HC0 : Hid (C.length = c) := by unfold Hid; rw [hC]; simp
      have hc1 : 0 < c ∧ k + c ≤ n := by omega
      have hkc : IntKind.i64.wrap ((k : Int) + (c : Int)) = (k : Int) + (c : Int) := IntWalk.i64_in _ (by omega)
      clear hC hc HG hx
      go_wp2_with fail
      go_region_law (refine step_copy_splice (by exact rfl) (.tmp 41) (.tmp 44) 24 24 (by exact rfl) 3 Try.underlying24 hsz (if n = k then some ⟨w'.heap.size, 0, none⟩ else some ⟨w'.heap.size, k, none⟩) (some ⟨w'.heap.size, 0, none⟩) (n - k) (n - k) k n (by go_simp) (by go_simp) w'.heap.size k (fillL n k (I x)) 3 HH.out C hC1.out (fun _ => ⟨if_neg (by omega), _, rfl, hC2.out⟩) hC5.out hC3.out w'.heap.size w' HX.out.drew (Nat.le_refl _) ?_; rw [hC4.out, HC0.out]; intro w2 HG2 hB2)
      have HB2 := Lib.hid hB2
      clear hB2 HH HX hC1 hC2 hC3 hC4 hC5 HC0
      go_wp2
      go_roundw
      case rel => exact ⟨k + c, by omega, by omega, by rw [Int.natCast_add], HG2, HB2.out⟩
      case measure => simp only [intOf]; omega
    · obtain rfl : k = n := by omega
      have HX := Lib.hid hx; clear hx
      go_wp2
      go_ret
      refine ⟨_, rfl, ⟨by simp, .inr ⟨_, k, _, rfl, Nat.le_refl _, HG.out, Nat.le_refl _, by unfold maxLen; omega, by simp [fill_len], ?_⟩⟩, HX.out⟩
      rw [fill_all]; simp
end Go.Proofs.Ytjagbnaacfhokaa
/- Sweeping, in plain Lean: folded and dropped nets. No Go in sight. -/
namespace Go.Proofs.Ytjagbnaacfhokaa
set_option linter.unusedVariables false
set_option linter.unusedSimpArgs false

/-! Fold -/
def foldG (g : GateM) (x : Int) : GateM := if x = 0 then ⟨0, 0, []⟩ else if x = 1 then ⟨1, 0, []⟩ else g
def foldGs : List GateM → List Int → List GateM
  | g :: gs, x :: v => foldG g x :: foldGs gs v
  | gs, [] => gs
  | [], _ => []
def foldV (N : NetM) : List Int := settledM N.gates (opensM N.regs.length) (opensM N.ins.toNat)
def foldN (N : NetM) : NetM := { N with gates := foldGs N.gates (foldV N) }
theorem foldGs_at : ∀ (gs : List GateM) (v : List Int) (k : Nat) (g : GateM), gs.length = v.length → gs[k]? = some g → (foldGs gs v)[k]? = some (foldG g (valI v k))
  | [], v, k, g, _, h => by simp at h
  | g :: gs, [], k, x, h, _ => by simp at h
  | g :: gs, y :: v, 0, x, _, h => by simp at h; subst h; simp [foldGs, valI]
  | g :: gs, y :: v, k + 1, x, hl, h => by
    have := foldGs_at gs v k x (by simpa using hl) (by simpa using h)
    simp only [foldGs, List.getElem?_cons_succ, this]
    simp [valI]
theorem foldGs_len : ∀ (gs : List GateM) (v : List Int), gs.length = v.length → (foldGs gs v).length = gs.length
  | [], [], _ => rfl
  | [], y :: v, h => by simp at h
  | g :: gs, [], h => by simp at h
  | g :: gs, y :: v, h => by simp [foldGs, foldGs_len gs v (by simpa using h)]
theorem worth_fold {regs ins u : List Int} {g : GateM} {x : Int} (hx : x = 0 ∨ x = 1 ∨ x = 2) : worthM regs ins u (foldG g x) = if x = 2 then worthM regs ins u g else x := by
  rcases hx with rfl | rfl | rfl <;> rfl
theorem leqM_opens' {n : Nat} {v : List Int} (h : v.length = n) : leqM (opensM n) v = true := by subst h; exact leqM_opens v
/-- Folded, each gate is settled as it was. -/
theorem fold_settled {gs : List GateM} {regs ins : List Int} {a b : Nat} (hr : regs.length = a) (hi : ins.length = b) :
    settledM (foldGs gs (settledM gs (opensM a) (opensM b))) regs ins = settledM gs regs ins := by
  generalize hv0 : settledM gs (opensM a) (opensM b) = v0
  have L0 : LeastV gs (opensM a) (opensM b) v0 := by rw [← hv0]; exact settled_least _ _ _
  have g0 : goodL v0 := by rw [← hv0]; exact settled_good (opens_good _) (opens_good _)
  have hl : gs.length = v0.length := L0.len.symm
  have hfl := foldGs_len gs v0 hl
  have Lx := settled_least gs regs ins
  have Ly := settled_least (foldGs gs v0) regs ins
  generalize hx : settledM gs regs ins = x at *
  generalize hy : settledM (foldGs gs v0) regs ins = y at *
  have v0x : leqM v0 x = true := by
    rw [← hv0, ← hx]; exact settled_mono (by simp [opensM, hr]) (by simp [opensM, hi]) (leqM_opens' hr) (leqM_opens' hi)
  have ylen : y.length = gs.length := by rw [Ly.len, hfl]
  have fnext : ∀ (u : List Int) (k : Nat), k < gs.length → valI (nextV (foldGs gs v0) regs ins u) k = if valI v0 k = 2 then valI (nextV gs regs ins u) k else valI v0 k := fun u k hk => by
    have e := foldGs_at gs v0 k _ hl (List.getElem?_eq_getElem hk)
    rw [next_val e, next_val (List.getElem?_eq_getElem hk), worth_fold (valI_good g0 k)]
  -- x solves the folded net
  have fx : nextV (foldGs gs v0) regs ins x = x := val_ext (by rw [next_len, hfl, Lx.len]) fun k hk => by
    rw [next_len, hfl] at hk
    rw [fnext x k hk]
    split
    · rw [Lx.fix]
    · rename_i h
      rcases leqM_val (by rw [L0.len, Lx.len]) v0x k with e | e
      · exact absurd e h
      · exact e
  have yx := Ly.least x (by rw [Lx.len, hfl]) fx
  have v0y : leqM v0 y = true := leqM_of_val (by rw [L0.len, ylen]) fun k hk => by
    rw [L0.len] at hk
    by_cases h : valI v0 k = 2
    · exact .inl h
    · right
      have := fnext y k hk
      rw [Ly.fix, if_neg h] at this; exact this.symm
  have fy : nextV gs regs ins y = y := val_ext (by rw [next_len, ylen]) fun k hk => by
    rw [next_len] at hk
    have := fnext y k hk
    rw [Ly.fix] at this
    by_cases h : valI v0 k = 2
    · rw [if_pos h] at this; exact this.symm
    · rw [if_neg h] at this
      rw [this]
      have hm := next_mono (gs := gs) (regs := opensM a) (regs' := regs) (ins := opensM b) (ins' := ins) (by simp [opensM, hr]) (by simp [opensM, hi]) (by rw [L0.len, ylen]) (leqM_opens' hr) (leqM_opens' hi) v0y
      rw [L0.fix] at hm
      rcases leqM_val (by rw [L0.len, next_len]) hm k with e | e
      · exact absurd e h
      · exact e.symm
  exact leqM_anti (by rw [ylen, Lx.len]) yx (Lx.least y ylen fy)
theorem foldV_len (N : NetM) : (foldV N).length = N.gates.length := settled_len _ _ _
theorem foldN_len (N : NetM) : (foldN N).gates.length = N.gates.length := foldGs_len _ _ (foldV_len N).symm
theorem foldN_settled {N : NetM} {regs ins : List Int} (hr : regs.length = N.regs.length) (hi : ins.length = N.ins.toNat) : settledM (foldN N).gates regs ins = settledM N.gates regs ins := fold_settled hr hi
theorem foldV_good (N : NetM) : goodL (foldV N) := settled_good (opens_good _) (opens_good _)
theorem foldG_twice {g : GateM} {x : Int} (hx : x = 0 ∨ x = 1 ∨ x = 2) : foldG (foldG g x) x = foldG g x := by rcases hx with rfl | rfl | rfl <;> rfl
theorem foldN_twice (N : NetM) : foldN (foldN N) = foldN N := by
  have hv : foldV (foldN N) = foldV N := foldN_settled (by simp [opensM, foldN]) (by simp [opensM, foldN])
  have hg : foldGs (foldN N).gates (foldV N) = (foldN N).gates := by
    refine List.ext_getElem? fun k => ?_
    rcases Nat.lt_or_ge k N.gates.length with hk | hk
    · have e := foldGs_at N.gates (foldV N) k _ (foldV_len N).symm (List.getElem?_eq_getElem hk)
      have e' : (foldN N).gates[k]? = some (foldG N.gates[k] (valI (foldV N) k)) := e
      rw [foldGs_at (foldN N).gates (foldV N) k _ (by rw [foldN_len, foldV_len]) e', e', foldG_twice (valI_good (foldV_good N) k)]
    · rw [List.getElem?_eq_none (by rw [foldGs_len _ _ (by rw [foldN_len, foldV_len]), foldN_len]; exact hk), List.getElem?_eq_none (by rw [foldN_len]; exact hk)]
  unfold foldN at hg ⊢
  simp only at hg ⊢
  have hv' : foldV { N with gates := foldGs N.gates (foldV N) } = foldV N := hv
  rw [hv', hg]
theorem mem_foldGs : ∀ {gs : List GateM} {v : List Int} {x : GateM}, x ∈ foldGs gs v → x ∈ gs ∨ x = ⟨0, 0, []⟩ ∨ x = ⟨1, 0, []⟩
  | [], [], x, h => .inl h
  | [], _ :: _, x, h => by simp [foldGs] at h
  | g :: gs, [], x, h => .inl h
  | g :: gs, y :: v, x, h => by
    simp only [foldGs, List.mem_cons] at h
    rcases h with h | h
    · unfold foldG at h
      split at h
      · exact .inr (.inl h)
      split at h
      · exact .inr (.inr h)
      · exact .inl (by simp [h])
    · rcases mem_foldGs h with e | e
      · exact .inl (by simp [e])
      · exact .inr e
theorem foldN_ok {N : NetM} (h : NetOK N) : NetOK (foldN N) := by
  have hl := foldN_len N
  have each : ∀ g ∈ (foldN N).gates, g ∈ N.gates ∨ g = ⟨0, 0, []⟩ ∨ g = ⟨1, 0, []⟩ := fun g hg => mem_foldGs hg
  refine ⟨h.ins0, h.ins3, by rw [hl]; exact h.gl, h.rl, h.ol, fun g hg => ?_, fun k hk => ?_, fun g hg => ?_, fun g hg => ?_⟩
  · rcases each g hg with e | rfl | rfl
    · exact h.al g e
    · simp
    · simp
  · rw [hl]
    refine h.named k ?_
    unfold namedM at hk ⊢
    simp only [List.mem_append] at hk ⊢
    rcases hk with e | e
    · exact .inl e
    · obtain ⟨g, hg, ha⟩ := List.mem_flatMap.1 e
      rcases each g hg with e | rfl | rfl
      · exact .inr (List.mem_flatMap.2 ⟨g, e, ha⟩)
      · simp at ha
      · simp at ha
  · rcases each g hg with e | rfl | rfl
    · exact h.kinds g e
    · simp
    · simp
  · rcases each g hg with e | rfl | rfl
    · exact h.form g e
    · simp [formM]
    · simp [formM]
theorem foldN_turn {N : NetM} {regs ins : List Int} (hr : regs.length = N.regs.length) (hi : ins.length = N.ins.toNat) : turnN (foldN N) regs ins = turnN N regs ins := by
  unfold turnN
  rw [foldN_settled hr hi]; rfl

/-! Drop -/
def isM (N : NetM) : List Bool := needsM N.gates (N.outs ++ nextsM N)
def keptFrom : List Bool → Int → List Int
  | [], _ => []
  | b :: l, k => if b then k :: keptFrom l (k + 1) else -1 :: keptFrom l k
def toM (N : NetM) : List Int := keptFrom (isM N) 0
def renG (tl : List Int) (g : GateM) : GateM := ⟨g.kind, g.num, g.args.map (valI tl)⟩
def keepGs (f : GateM → GateM) : List GateM → List Bool → List GateM
  | g :: gs, b :: l => if b then f g :: keepGs f gs l else keepGs f gs l
  | _, _ => []
def dropN (N : NetM) : NetM := ⟨N.ins, keepGs (renG (toM N)) N.gates (isM N), N.regs.map fun r => ⟨r.fst, valI (toM N) r.next⟩, N.outs.map (valI (toM N))⟩
theorem keptFrom_len : ∀ (l : List Bool) (k : Int), (keptFrom l k).length = l.length
  | [], _ => rfl
  | b :: l, k => by simp only [keptFrom]; split <;> simp [keptFrom_len l]
theorem keptFrom_at : ∀ (l : List Bool) (k : Int) (j : Nat) (b : Bool), l[j]? = some b → (keptFrom l k)[j]? = some (if b then k + (cnt (l.take j) : Nat) else -1)
  | [], _, j, b, h => by simp at h
  | c :: l, k, 0, b, h => by simp at h; subst h; cases c <;> simp [keptFrom, cnt]
  | c :: l, k, j + 1, b, h => by
    have h' : l[j]? = some b := by simpa using h
    cases c with
    | true =>
      simp only [keptFrom, if_true, List.getElem?_cons_succ, keptFrom_at l (k + 1) j b h', List.take_succ_cons, cnt, List.countP_cons]
      cases b <;> simp; omega
    | false =>
      simp only [keptFrom, Bool.false_eq_true, if_false, List.getElem?_cons_succ, keptFrom_at l k j b h', List.take_succ_cons, cnt, List.countP_cons]
      cases b <;> simp
theorem keepGs_len (f : GateM → GateM) : ∀ (gs : List GateM) (l : List Bool), gs.length = l.length → (keepGs f gs l).length = cnt l
  | [], [], _ => rfl
  | [], _ :: _, h => by simp at h
  | _ :: _, [], h => by simp at h
  | g :: gs, b :: l, h => by
    have ih := keepGs_len f gs l (by simpa using h)
    cases b <;> simp [keepGs, cnt, ih] at *
theorem keepGs_at (f : GateM → GateM) : ∀ (gs : List GateM) (l : List Bool) (j : Nat) (g : GateM), gs[j]? = some g → l[j]? = some true → (keepGs f gs l)[cnt (l.take j)]? = some (f g)
  | [], _, j, g, h, _ => by simp at h
  | _ :: _, [], j, g, _, h => by simp at h
  | x :: gs, b :: l, 0, g, h, hl => by simp at h hl; subst h; subst hl; simp [keepGs, cnt]
  | x :: gs, b :: l, j + 1, g, h, hl => by
    have ih := keepGs_at f gs l j g (by simpa using h) (by simpa using hl)
    cases b <;> simp [keepGs, cnt] at * <;> exact ih
theorem cnt_take_lt {l : List Bool} {j : Nat} (h : l[j]? = some true) : cnt (l.take j) < cnt l := by
  have hj := (List.getElem?_eq_some_iff.1 h).1
  have e : cnt l = cnt (l.take j) + cnt (l.drop j) := by unfold cnt; rw [← List.countP_append, List.take_append_drop]
  have : l.drop j = true :: l.drop (j + 1) := by rw [List.drop_eq_getElem_cons hj]; congr 1; rw [List.getElem?_eq_getElem hj] at h; injection h
  rw [this] at e; simp [cnt] at e ⊢; omega
theorem cnt_take_surj : ∀ (l : List Bool) (i : Nat), i < cnt l → ∃ j, l[j]? = some true ∧ cnt (l.take j) = i
  | [], i, h => by simp [cnt] at h
  | b :: l, i, h => by
    cases b with
    | true =>
      cases i with
      | zero => exact ⟨0, by simp, by simp [cnt]⟩
      | succ i =>
        obtain ⟨j, h1, h2⟩ := cnt_take_surj l i (by simp [cnt] at h ⊢; omega)
        exact ⟨j + 1, by simpa using h1, by simp [cnt] at h2 ⊢; exact h2⟩
    | false =>
      obtain ⟨j, h1, h2⟩ := cnt_take_surj l i (by simpa [cnt] using h)
      exact ⟨j + 1, by simpa using h1, by simp [cnt] at h2 ⊢; exact h2⟩
theorem on_at {o : List Bool} {k : Int} (h : onI o k = true) : o[k.toNat]? = some true := by
  have := onI_lt h
  unfold onI at h; rw [List.getElem?_eq_getElem this] at h ⊢; simpa using h
theorem to_at {N : NetM} {k : Int} (h : onI (isM N) k = true) : valI (toM N) k = (cnt ((isM N).take k.toNat) : Nat) := by
  unfold valI toM
  rw [keptFrom_at _ _ _ _ (on_at h)]; simp
theorem is_len (N : NetM) : (isM N).length = N.gates.length := needsM_len _ _
theorem wanted_in {N : NetM} (h : NetOK N) : inR N.gates.length (N.outs ++ nextsM N) := fun k hk => by
  rcases List.mem_append.1 hk with e | e
  · exact h.outs k e
  · exact h.nexts k e
theorem is_least {N : NetM} (h : NetOK N) : Least N.gates (N.outs ++ nextsM N) (isM N) := needsM_least h.args (wanted_in h)
theorem drop_at {N : NetM} {k : Nat} {g : GateM} (hg : N.gates[k]? = some g) (hk : onI (isM N) k = true) : (dropN N).gates[cnt ((isM N).take k)]? = some (renG (toM N) g) :=
  keepGs_at _ _ _ _ _ hg (by have := on_at hk; simpa using this)
theorem drop_len (N : NetM) : (dropN N).gates.length = cnt (isM N) := keepGs_len _ _ _ (is_len N).symm
theorem drop_from {N : NetM} {i : Nat} {x : GateM} (h : (dropN N).gates[i]? = some x) : ∃ (k : Nat) (g : GateM), N.gates[k]? = some g ∧ onI (isM N) k = true ∧ cnt ((isM N).take k) = i ∧ x = renG (toM N) g := by
  have hi := (List.getElem?_eq_some_iff.1 h).1
  rw [drop_len] at hi
  obtain ⟨k, h1, h2⟩ := cnt_take_surj _ _ hi
  have hk := (List.getElem?_eq_some_iff.1 h1).1
  rw [is_len] at hk
  have hon : onI (isM N) k = true := by simp [onI, h1]
  have := drop_at (List.getElem?_eq_getElem hk) hon
  rw [h2, h] at this
  injection this with this
  exact ⟨k, _, List.getElem?_eq_getElem hk, hon, h2, this⟩
theorem worth_ren {regs ins v w : List Int} {tl : List Int} {g : GateM} (h : ∀ a ∈ g.args, leI (valI v a) (valI w (valI tl a))) : leI (worthM regs ins v g) (worthM regs ins w (renG tl g)) := by
  unfold worthM renG
  simp only
  split
  · exact leI.refl _
  split
  · exact leI.refl _
  split
  · exact leI.refl _
  split
  · exact leI.refl _
  have hm : leqM (g.args.map (valI v)) ((g.args.map (valI tl)).map (valI w)) = true := by
    generalize g.args = l at h
    induction l with
    | nil => rfl
    | cons a l ih =>
      simp only [List.map_cons, leqM, Bool.and_eq_true, Bool.or_eq_true, decide_eq_true_eq]
      exact ⟨h a (by simp), ih (fun b hb => h b (by simp [hb]))⟩
  by_cases k4 : g.kind = 4
  · exact leq_of _ (.inl k4) _ _ (by simp) hm
  by_cases k5 : g.kind = 5
  · exact leq_of _ (.inr k5) _ _ (by simp) hm
  simp only [ofM, if_neg k4, if_neg k5]
  cases hg : g.args with
  | nil => exact leI.refl _
  | cons a l =>
    simp only [List.map_cons, List.headD_cons]
    rcases h a (by rw [hg]; simp) with e | e
    · left; rw [e]; rfl
    · right; rw [e]
theorem worth_ren' {regs ins v w : List Int} {tl : List Int} {g : GateM} (h : ∀ a ∈ g.args, leI (valI w (valI tl a)) (valI v a)) : leI (worthM regs ins w (renG tl g)) (worthM regs ins v g) := by
  unfold worthM renG
  simp only
  split
  · exact leI.refl _
  split
  · exact leI.refl _
  split
  · exact leI.refl _
  split
  · exact leI.refl _
  have hm : leqM ((g.args.map (valI tl)).map (valI w)) (g.args.map (valI v)) = true := by
    generalize g.args = l at h
    induction l with
    | nil => rfl
    | cons a l ih =>
      simp only [List.map_cons, leqM, Bool.and_eq_true, Bool.or_eq_true, decide_eq_true_eq]
      exact ⟨h a (by simp), ih (fun b hb => h b (by simp [hb]))⟩
  by_cases k4 : g.kind = 4
  · exact leq_of _ (.inl k4) _ _ (by simp) hm
  by_cases k5 : g.kind = 5
  · exact leq_of _ (.inr k5) _ _ (by simp) hm
  simp only [ofM, if_neg k4, if_neg k5]
  cases hg : g.args with
  | nil => exact leI.refl _
  | cons a l =>
    simp only [List.map_cons, List.headD_cons]
    rcases h a (by rw [hg]; simp) with e | e
    · left; rw [e]; rfl
    · right; rw [e]
theorem kept_args {N : NetM} (h : NetOK N) {k : Nat} {g : GateM} (hg : N.gates[k]? = some g) (hk : onI (isM N) k = true) : ∀ a ∈ g.args, onI (isM N) a = true := fun a ha =>
  (is_least h).closed k (by omega) hk a (by simp [argsI, hg, ha])
/-- What stays is settled as it was. -/
theorem drop_settled {N : NetM} (h : NetOK N) (regs ins : List Int) {k : Nat} (hk : onI (isM N) k = true) : valI (settledM (dropN N).gates regs ins) (cnt ((isM N).take k) : Nat) = valI (settledM N.gates regs ins) k := by
  have Lx := settled_least N.gates regs ins
  have Ly := settled_least (dropN N).gates regs ins
  generalize hx : settledM N.gates regs ins = x at *
  generalize hy : settledM (dropN N).gates regs ins = y at *
  have kl : ∀ k : Nat, onI (isM N) k = true → k < N.gates.length := fun k hk => by have := onI_lt hk; rw [is_len] at this; simpa using this
  have up : ∀ (n : Nat) (v : List Int), (∀ k : Nat, onI (isM N) k = true → leI (valI v k) (valI y (cnt ((isM N).take k) : Nat))) → ∀ k : Nat, onI (isM N) k = true → leI (valI (itV N.gates regs ins n v) k) (valI y (cnt ((isM N).take k) : Nat)) := by
    intro n
    induction n with
    | zero => intro v hv; exact hv
    | succ n ih =>
      intro v hv
      refine ih _ fun k hk => ?_
      have hg := List.getElem?_eq_getElem (kl k hk)
      rw [next_val hg]
      have hd := drop_at hg hk
      have e := next_val (regs := regs) (ins := ins) (v := y) hd
      rw [Ly.fix] at e
      rw [e]
      refine worth_ren fun a ha => ?_
      have ho := kept_args h hg hk a ha
      have ha0 := (h.args _ (List.mem_of_getElem? hg) a ha).1
      rw [to_at ho]
      have := hv a.toNat (by rw [show ((a.toNat : Nat) : Int) = a from by omega]; exact ho)
      rwa [show ((a.toNat : Nat) : Int) = a from by omega] at this
  have down : ∀ (n : Nat) (w : List Int), (∀ k : Nat, onI (isM N) k = true → leI (valI w (cnt ((isM N).take k) : Nat)) (valI x k)) → ∀ k : Nat, onI (isM N) k = true → leI (valI (itV (dropN N).gates regs ins n w) (cnt ((isM N).take k) : Nat)) (valI x k) := by
    intro n
    induction n with
    | zero => intro v hv; exact hv
    | succ n ih =>
      intro w hv
      refine ih _ fun k hk => ?_
      have hg := List.getElem?_eq_getElem (kl k hk)
      have hd := drop_at hg hk
      rw [next_val hd]
      have e := next_val (regs := regs) (ins := ins) (v := x) hg
      rw [Lx.fix] at e
      rw [e]
      refine worth_ren' fun a ha => ?_
      have ho := kept_args h hg hk a ha
      have ha0 := (h.args _ (List.mem_of_getElem? hg) a ha).1
      rw [to_at ho]
      have := hv a.toNat (by rw [show ((a.toNat : Nat) : Int) = a from by omega]; exact ho)
      rwa [show ((a.toNat : Nat) : Int) = a from by omega] at this
  have h1 := up N.gates.length (opensM N.gates.length) (fun k hk => .inl (by simp [valI, opensM, kl k hk])) k hk
  have h2 := down (dropN N).gates.length (opensM (dropN N).gates.length) (fun k hk => .inl (by
    have h3 := cnt_take_lt (on_at hk)
    rw [Int.toNat_natCast] at h3
    simp [valI, opensM, drop_len, h3])) k hk
  have e1 : itV N.gates regs ins N.gates.length (opensM N.gates.length) = x := hx
  have e2 : itV (dropN N).gates regs ins (dropN N).gates.length (opensM (dropN N).gates.length) = y := hy
  rw [e1] at h1; rw [e2] at h2
  exact h2.anti h1
theorem want_on {N : NetM} (h : NetOK N) {a : Int} (ha : a ∈ N.outs ++ nextsM N) : onI (isM N) a = true := (is_least h).all a ha
theorem drop_pick {N : NetM} (h : NetOK N) (regs ins : List Int) {l : List Int} (hl : ∀ a ∈ l, a ∈ N.outs ++ nextsM N) :
    pickM (settledM (dropN N).gates regs ins) (l.map (valI (toM N))) = pickM (settledM N.gates regs ins) l := by
  unfold pickM
  rw [List.map_map]
  refine List.map_congr_left fun a ha => ?_
  have ho := want_on h (hl a ha)
  have h0 := (wanted_in h a (hl a ha)).1
  simp only [Function.comp]
  rw [to_at ho]
  have := drop_settled h regs ins (k := a.toNat) (by rw [show ((a.toNat : Nat) : Int) = a from by omega]; exact ho)
  rwa [show ((a.toNat : Nat) : Int) = a from by omega] at this
theorem drop_turn {N : NetM} (h : NetOK N) {regs ins : List Int} {o : List Int × List Int} (ht : turnN N regs ins = some o) : turnN (dropN N) regs ins = some o := by
  unfold turnN at ht ⊢
  split at ht
  · cases ht
  · rename_i hc
    have hc : (2 : Int) ∉ settledM N.gates regs ins := by simpa using hc
    have hno : (2 : Int) ∉ settledM (dropN N).gates regs ins := fun hm => by
      obtain ⟨i, hi⟩ := List.mem_iff_getElem?.1 hm
      have hil := (List.getElem?_eq_some_iff.1 hi).1
      rw [settled_len] at hil
      obtain ⟨k, g, hg, hk, hki, _⟩ := drop_from (List.getElem?_eq_getElem hil)
      have := drop_settled h regs ins hk
      rw [hki] at this
      have e : valI (settledM (dropN N).gates regs ins) (i : Nat) = 2 := by simp [valI, hi]
      rw [e] at this
      exact val_shut hc k this.symm
    rw [if_neg (by simpa using hno), ← ht]
    have e1 := drop_pick h regs ins (l := N.outs) (fun a ha => by simp [ha])
    have e2 := drop_pick h regs ins (l := nextsM N) (fun a ha => by simp [ha])
    have e3 : nextsM (dropN N) = (nextsM N).map (valI (toM N)) := by simp [nextsM, dropN]
    rw [e3, e2, ← e1]; rfl
theorem drop_first (N : NetM) : firstM (dropN N) = firstM N := by simp [firstM, dropN]
theorem to_range {N : NetM} {a : Int} (ho : onI (isM N) a = true) : 0 ≤ valI (toM N) a ∧ valI (toM N) a < (dropN N).gates.length := by
  rw [to_at ho, drop_len]
  have := cnt_take_lt (on_at ho)
  omega
theorem dropN_ok {N : NetM} (h : NetOK N) : NetOK (dropN N) := by
  have hle : (dropN N).gates.length ≤ N.gates.length := by rw [drop_len, ← is_len]; exact cnt_max _
  have each : ∀ x ∈ (dropN N).gates, ∃ (k : Nat) (g : GateM), N.gates[k]? = some g ∧ onI (isM N) k = true ∧ x = renG (toM N) g := fun x hx => by
    obtain ⟨i, hi⟩ := List.mem_iff_getElem?.1 hx
    obtain ⟨k, g, h1, h2, _, h3⟩ := drop_from hi
    exact ⟨k, g, h1, h2, h3⟩
  refine ⟨h.ins0, h.ins3, by have := h.gl; omega, by simp only [dropN, List.length_map]; exact h.rl, by simp only [dropN, List.length_map]; exact h.ol, fun x hx => ?_, fun k hk => ?_, fun x hx => ?_, fun x hx => ?_⟩
  · obtain ⟨k, g, h1, _, rfl⟩ := each x hx
    have := h.al g (List.mem_of_getElem? h1); simpa [renG] using this
  · unfold namedM at hk
    simp only [List.mem_append] at hk
    rcases hk with (e | e) | e
    · obtain ⟨a, ha, rfl⟩ := List.mem_map.1 (show k ∈ N.outs.map (valI (toM N)) from e)
      exact to_range (want_on h (by simp [ha]))
    · simp only [dropN, List.map_map, List.mem_map, Function.comp] at e
      obtain ⟨r, hr, rfl⟩ := e
      exact to_range (want_on h (by simp only [nextsM, List.mem_append, List.mem_map]; exact .inr ⟨r, hr, rfl⟩))
    · obtain ⟨x, hx, hk⟩ := List.mem_flatMap.1 e
      obtain ⟨j, g, h1, h2, rfl⟩ := each x hx
      obtain ⟨a, ha, rfl⟩ := List.mem_map.1 (show k ∈ g.args.map (valI (toM N)) from hk)
      exact to_range (kept_args h h1 h2 a ha)
  · obtain ⟨k, g, h1, _, rfl⟩ := each x hx
    exact h.kinds g (List.mem_of_getElem? h1)
  · obtain ⟨k, g, h1, _, rfl⟩ := each x hx
    have := h.form g (List.mem_of_getElem? h1)
    have e : (renG (toM N) g).args.length = g.args.length := by simp [renG]
    have e2 : (dropN N).regs.length = N.regs.length := by simp [dropN]
    unfold formM at this ⊢
    rw [e, e2]; exact this
/-- All that stays is needed. -/
theorem drop_reach {N : NetM} (h : NetOK N) {k : Int} (r : NReach N.gates (N.outs ++ nextsM N) k) : NReach (dropN N).gates ((dropN N).outs ++ nextsM (dropN N)) (valI (toM N) k) := by
  induction r with
  | @base k hk =>
    refine .base ?_
    have e3 : nextsM (dropN N) = (nextsM N).map (valI (toM N)) := by simp [nextsM, dropN]
    rw [e3, show (dropN N).outs = N.outs.map (valI (toM N)) from rfl, ← List.map_append]
    exact List.mem_map.2 ⟨k, hk, rfl⟩
  | @step k a r ha ih =>
    refine .step ih ?_
    obtain ⟨g, hg, hm⟩ := argsI_mem ha
    have k0 := (reach_range h.args (wanted_in h) r).1
    have ho : onI (isM N) k = true := ((is_least h).iff h.args (wanted_in h) k0).2 r
    have hd := drop_at (k := k.toNat) hg (by rw [show ((k.toNat : Nat) : Int) = k from by omega]; exact ho)
    rw [to_at ho]
    simp only [argsI, Int.toNat_natCast, hd, Option.map_some, Option.getD_some, renG]
    exact List.mem_map.2 ⟨a, hm, rfl⟩
theorem drop_all {N : NetM} (h : NetOK N) : isM (dropN N) = List.replicate (dropN N).gates.length true := by
  have hd := dropN_ok h
  refine flags_ext (by rw [is_len]; simp) fun i hi => ?_
  rw [is_len] at hi
  have e : onI (List.replicate (dropN N).gates.length true) i = true := by simp [onI, hi]
  rw [e]
  obtain ⟨k, g, hg, hk, hki, _⟩ := drop_from (List.getElem?_eq_getElem hi)
  have r := (is_least h).sound k (by omega) hk
  have r2 := drop_reach h r
  rw [to_at hk, Int.toNat_natCast, hki] at r2
  exact ((is_least hd).iff hd.args (wanted_in hd) (by omega)).2 r2
theorem keptFrom_all (n : Nat) : ∀ k : Int, ∀ j : Nat, j < n → (keptFrom (List.replicate n true) k)[j]? = some (k + j) := by
  induction n with
  | zero => intro k j h; omega
  | succ n ih =>
    intro k j h
    cases j with
    | zero => simp [List.replicate_succ, keptFrom]
    | succ j => simp only [List.replicate_succ, keptFrom, if_true, List.getElem?_cons_succ, ih (k + 1) j (by omega)]; congr 1; omega
theorem keepGs_all (f : GateM → GateM) : ∀ gs : List GateM, keepGs f gs (List.replicate gs.length true) = gs.map f
  | [] => rfl
  | g :: gs => by simp [List.replicate_succ, keepGs, keepGs_all f gs]
theorem dropN_twice {N : NetM} (h : NetOK N) : dropN (dropN N) = dropN N := by
  have hd := dropN_ok h
  have hto : ∀ a : Int, 0 ≤ a → a < (dropN N).gates.length → valI (toM (dropN N)) a = a := fun a h0 h1 => by
    unfold valI toM
    rw [drop_all h, keptFrom_all _ 0 a.toNat (by omega)]; simp; omega
  generalize hM : dropN N = M at *
  have e1 : keepGs (renG (toM M)) M.gates (isM M) = M.gates := by
    have ha : isM M = List.replicate M.gates.length true := by rw [← hM]; exact drop_all h
    rw [ha, keepGs_all]
    have : M.gates.map (renG (toM M)) = M.gates.map id := List.map_congr_left fun g hg => by
      have : g.args.map (valI (toM M)) = g.args.map id := List.map_congr_left fun a ha => by
        have := hd.args g hg a ha; simpa using hto a this.1 this.2
      simp only [renG, this, List.map_id_fun, id]
    rw [this]; simp
  have e2 : (M.regs.map fun r => (⟨r.fst, valI (toM M) r.next⟩ : StoreM)) = M.regs := by
    have : (M.regs.map fun r => (⟨r.fst, valI (toM M) r.next⟩ : StoreM)) = M.regs.map id := List.map_congr_left fun r hr => by
      have := hd.nexts r.next (List.mem_map.2 ⟨r, hr, rfl⟩)
      rw [hto r.next this.1 this.2]; rfl
    rw [this]; simp
  have e3 : M.outs.map (valI (toM M)) = M.outs := by
    have : M.outs.map (valI (toM M)) = M.outs.map id := List.map_congr_left fun a ha => by
      have := hd.outs a ha; simpa using hto a this.1 this.2
    rw [this]; simp
  show (⟨M.ins, keepGs (renG (toM M)) M.gates (isM M), M.regs.map fun r => ⟨r.fst, valI (toM M) r.next⟩, M.outs.map (valI (toM M))⟩ : NetM) = M
  rw [e1, e2, e3]

/-! runs -/
theorem sweep_run {N : NetM} (h : NetOK N) : ∀ (l r : List Int) (q : List (List Int) × List Int), r.length = N.regs.length → runFrom N r l = some q → runFrom (dropN (foldN N)) r l = some q
  | [], r, q, _, hr => by simpa [runFrom] using hr
  | x :: l, r, q, hl, hr => by
    simp only [runFrom, Option.bind_eq_some_iff, Option.map_eq_some_iff] at hr ⊢
    obtain ⟨o, h1, q', h2, rfl⟩ := hr
    have hf := foldN_turn (N := N) (regs := r) (ins := bitsM x N.ins.toNat) hl (bits_len _ _)
    have ht : turnN (dropN (foldN N)) r (bitsM x N.ins.toNat) = some o := drop_turn (foldN_ok h) (by rw [hf]; exact h1)
    exact ⟨o, ht, q', sweep_run h l o.2 q' (turnN_len h1).2 h2, rfl⟩
theorem foldN_first (N : NetM) : firstM (foldN N) = firstM N := rfl
end Go.Proofs.Ytjagbnaacfhokaa
/- Gates of the call's own: a row of gates, each with a row of args of its own. -/
namespace Go.Proofs.Ytjagbnaacfhokaa
set_option linter.unusedVariables false
set_option linter.unusedSimpArgs false
open Go.RowKit

set_option maxHeartbeats 1000000 in
theorem fold1_any (n : Nat) (w : World) (hn : n ≤ 20) :
    Calls Try.prog 103 #[I n] w fun e w' => ∃ v, e = .returned v ∧ w'.ownsRow w.heap.size 3 1 v n ((opensM n).map I) ∧ Ext w w' := by
  obtain ⟨W, hW⟩ : ∃ W, W = w.alloc (.cells #[I 2] 3) := ⟨_, rfl⟩
  have hxW : Ext w W := by rw [hW]; exact (Ext.refl _).alloc _
  have hc : W.cell? ⟨w.heap.size, 0, none⟩ = some (I 2) := by rw [hW, World.cell?_alloc_new]; rfl
  have HW := Lib.hid hW; have HC := Lib.hid hc; have HN := Lib.hid hn
  have he : Hid (List.replicate n (I 2) = (opensM n).map I) := by unfold Hid; simp [opensM]
  clear hW hc hn
  go_enter Try.func103, Try.ntmps103
  go_wp2_with fail
  rw [← HW.out]
  refine (repeat_any w.heap.size n 2 W HC.out HN.out).mono ?_; rintro e w1 ⟨v, rfl, hown, x1⟩
  rw [he.out] at hown
  have HO := Lib.hid hown; have X1 := Lib.hid x1; clear hown x1
  go_wp2
  go_ret
  exact ⟨_, rfl, own_base HO.out hxW.size, hxW.trans X1.out⟩

set_option maxHeartbeats 1000000 in
theorem own_any (kd nm : Int) (A : Option Addr) (n c : Nat) (xs : List Int) (w : World) (h : Sl w A n (xs.map I)) (hn : n ≤ 1000000) :
    Calls Try.prog 107 #[gateV kd nm A n c] w fun e w' => ∃ A' c', e = .returned (gateV kd nm A' n c') ∧ w'.ownsRow w.heap.size 3 1 (.slice A' n c') n (xs.map I) ∧ Ext w w' := by
  obtain ⟨W1, hW1⟩ : ∃ W, W = w.alloc (.cells #[I kd, I nm, .slice A n c] 34) := ⟨_, rfl⟩
  obtain ⟨z, hz⟩ : ∃ z : List Value, z = [I 0, I 0, .slice none 0 0] := ⟨_, rfl⟩
  obtain ⟨W2, hW2⟩ : ∃ W, W = W1.alloc (.cells #[I 0, I 0, .slice none 0 0] 34) := ⟨_, rfl⟩
  have hx1 : Ext w W1 := by rw [hW1]; exact (Ext.refl _).alloc _
  have hx2 : Ext W1 W2 := by rw [hW2]; exact (Ext.refl _).alloc _
  have hb1 : Box W2 w.heap.size 34 [I kd, I nm, .slice A n c] := Box.ext (by rw [hW1]; exact Box.new w _ _) hx2
  have hs1 : W1.heap.size = w.heap.size + 1 := by rw [hW1]; simp
  have hb2 : Box W2 (w.heap.size + 1) 34 [I 0, I 0, .slice none 0 0] := by rw [← hs1, hW2]; exact Box.new W1 _ _
  have hs2 : W2.heap.size = w.heap.size + 2 := by rw [hW2]; simp [hs1]
  have HS := Lib.hid (h.keep (hx1.trans hx2).keeps)
  have HB1 := Lib.hid hb1; have HB2 := Lib.hid hb2; have HX := Lib.hid (hx1.trans hx2)
  have HW2 : Hid (W2 = (w.alloc (.cells #[I kd, I nm, .slice A n c] 34)).alloc (.cells #[I 0, I 0, .slice none 0 0] 34)) := by unfold Hid; rw [hW2, hW1]
  have HN := Lib.hid hn
  have hc2 := (hb1.cell 2).trans rfl
  clear h hW1 hW2 hz z hx1 hx2 hb1 hb2 hs1 hn
  go_enter Try.func107, Try.ntmps107
  go_wp2_with fail
  rw [← HW2.out]
  clear hc2
  refine (cloneInts_any A n c xs W2 HS.out (by have := HN.out; omega)).mono ?_; rintro e w3 ⟨v, rfl, hown, x3⟩
  obtain ⟨A', c', rfl, -, -, -⟩ := own_sl hown
  have k0 := ((HB1.out.ext x3).cell 0).trans rfl; have k1 := ((HB1.out.ext x3).cell 1).trans rfl; have k2 := ((HB1.out.ext x3).cell 2).trans rfl
  have m0 := ((HB2.out.ext x3).cell 0).trans rfl; have m1 := ((HB2.out.ext x3).cell 1).trans rfl; have m2 := ((HB2.out.ext x3).cell 2).trans rfl
  have f1 := (HB1.out.ext x3).free; have f2 := (HB2.out.ext x3).free
  simp only [List.getElem?_cons_zero, List.getElem?_cons_succ] at k0 k1 k2 m0 m1 m2
  have a1 := (HB1.out.ext x3).apart hown (by decide); have a2 := (HB2.out.ext x3).apart hown (by decide)
  have hfin := own_set (own_set (own_set (own_set hown a1 2 (.slice A' n c')) a2 0 (I kd)) a2 1 (I nm)) a2 2 (.slice A' n c')
  have hxf := (((((HX.out.trans x3).setCell (p := ⟨w.heap.size, 2, none⟩) (Nat.le_refl _) (.slice A' n c')).setCell (p := ⟨w.heap.size + 1, 0, none⟩) (Nat.le_succ _) (I kd)).setCell (p := ⟨w.heap.size + 1, 1, none⟩) (Nat.le_succ _) (I nm)).setCell (p := ⟨w.heap.size + 1, 2, none⟩) (Nat.le_succ _) (.slice A' n c'))
  have bx2 := ((((HB2.out.ext x3).kept (grownBy_set w3 w.heap.size 2 (.slice A' n c')) (by simp)).set 0 (I kd)).set 1 (I nm)).set 2 (.slice A' n c')
  have r0 := Lib.hid ((bx2.cell 0).trans rfl); have r1 := Lib.hid ((bx2.cell 1).trans rfl); have r2 := Lib.hid ((bx2.cell 2).trans rfl)
  have HF := Lib.hid (own_base hfin HX.out.size); have HXF := Lib.hid hxf
  clear hown x3 HB1 HB2 HS a1 a2 hfin hxf bx2
  go_wp2
  refine bodyPost_ret (v := gateV kd nm A' n c') ?_ rfl ⟨A', c', rfl, HF.out, HXF.out⟩
  have q0 := r0.out; have q1 := r1.out; have q2 := r2.out
  clear HF HXF r0 r1 r2 k0 k1 k2 m0 m1 m2
  simp only [List.set_cons_zero, List.set_cons_succ, List.getElem?_cons_zero, List.getElem?_cons_succ] at q0 q1 q2
  generalize (((w3.setCell _ _).setCell _ _).setCell _ _).setCell _ _ = WF at *
  simp [results, Try.results107, go_sem, q0, q1, q2]

def gateCs : List GateM → List Value → List Value
  | g :: gs, v :: vs => I g.kind :: I g.num :: v :: gateCs gs vs
  | _, _ => []
theorem gateCs_len : ∀ (gs : List GateM) (vs : List Value), vs.length = gs.length → (gateCs gs vs).length = gs.length * 3
  | [], [], _ => rfl
  | g :: gs, v :: vs, h => by simp only [gateCs, List.length_cons, gateCs_len gs vs (by simpa using h)]; omega
  | [], v :: vs, h => by simp at h
  | g :: gs, [], h => by simp at h
theorem gateCs_at : ∀ (gs : List GateM) (vs : List Value) (k : Nat) (g : GateM) (v : Value), gs[k]? = some g → vs[k]? = some v →
    (gateCs gs vs)[k * 3]? = some (I g.kind) ∧ (gateCs gs vs)[k * 3 + 1]? = some (I g.num) ∧ (gateCs gs vs)[k * 3 + 2]? = some v
  | [], vs, k, g, v, h, _ => by simp at h
  | g :: gs, [], k, g', v, _, h => by simp at h
  | g :: gs, v :: vs, 0, g', v', h, h' => by simp at h h'; subst h; subst h'; simp [gateCs]
  | g :: gs, v :: vs, k + 1, g', v', h, h' => by
    obtain ⟨h0, h1, h2⟩ := gateCs_at gs vs k g' v' (by simpa using h) (by simpa using h')
    have e : (k + 1) * 3 = k * 3 + 3 := by omega
    rw [e]
    exact ⟨by simpa [gateCs] using h0, by rw [show k * 3 + 3 + 1 = (k * 3 + 1) + 3 from by omega]; simpa [gateCs] using h1, by rw [show k * 3 + 3 + 2 = (k * 3 + 2) + 3 from by omega]; simpa [gateCs] using h2⟩
theorem gateCs_snoc : ∀ (gs : List GateM) (vs : List Value) (g : GateM) (v : Value), vs.length = gs.length → gateCs (gs ++ [g]) (vs ++ [v]) = gateCs gs vs ++ [I g.kind, I g.num, v]
  | [], [], g, v, _ => rfl
  | x :: gs, y :: vs, g, v, h => by simp only [List.cons_append, gateCs, gateCs_snoc gs vs g v (by simpa using h)]
  | [], v :: vs, _, _, h => by simp at h
  | g :: gs, [], _, _, h => by simp at h
/-- A row of gates of the call's own. -/
structure OwnG (w : World) (base : Nat) (s : Value) (gs : List GateM) (vs : List Value) : Prop where
  vl : vs.length = gs.length
  row : w.ownsRow base 34 3 s gs.length (gateCs gs vs)
  own : ∀ (k : Nat) v g, vs[k]? = some v → gs[k]? = some g → w.ownsRow base 3 1 v g.args.length (g.args.map I)
  apart : ∀ (j k : Nat) u v, j ≠ k → vs[j]? = some u → vs[k]? = some v → u.ownBlock = none ∨ u.ownBlock ≠ v.ownBlock
section
variable {w w' w0 : World} {base : Nat} {s : Value} {gs : List GateM} {vs : List Value}
theorem OwnG.nil (w : World) (base : Nat) : OwnG w base (.slice none 0 0) [] [] := ⟨rfl, World.ownsRow_nil _ _ _ _, fun k v g h => by simp at h, fun j k u v _ h => by simp at h⟩
theorem OwnG.ext (h : OwnG w base s gs vs) (hx : Ext w w') : OwnG w' base s gs vs := ⟨h.vl, own_ext h.row hx, fun k v g hv hg => own_ext (h.own k v g hv hg) hx, h.apart⟩
theorem OwnG.base_le {base' : Nat} (h : OwnG w base s gs vs) (hb : base' ≤ base) : OwnG w base' s gs vs := ⟨h.vl, own_base h.row hb, fun k v g hv hg => own_base (h.own k v g hv hg) hb, h.apart⟩
theorem OwnG.kept {row : Option Nat} (h : OwnG w base s gs vs) (hg : w.grownBy w' row) (hs : s.ownBlock = none ∨ s.ownBlock ≠ row) (hv : ∀ v ∈ vs, v.ownBlock = none ∨ v.ownBlock ≠ row) : OwnG w' base s gs vs :=
  ⟨h.vl, h.row.kept hg hs, fun k v g hk hgk => (h.own k v g hk hgk).kept hg (hv v (List.mem_of_getElem? hk)), h.apart⟩
/-- One gate more, whose args lie in memory that came later. -/
theorem OwnG.push (h : OwnG w0 base s gs vs) (hx : Ext w0 w) (hbase : base ≤ w0.heap.size) {s' v : Value} {g : GateM} (hv : w.ownsRow w0.heap.size 3 1 v g.args.length (g.args.map I))
    (hown : w'.ownsRow base 34 3 s' (gs.length + 1) (gateCs gs vs ++ [I g.kind, I g.num, v])) (hg : w.grownBy w' s.ownBlock) : OwnG w' base s' (gs ++ [g]) (vs ++ [v]) := by
  have hvl := h.vl
  have old : ∀ (k : Nat) u, vs[k]? = some u → u.ownBlock = none ∨ u.ownBlock ≠ v.ownBlock := fun k u hu => by
    have hk : k < gs.length := by have := (List.getElem?_eq_some_iff.1 hu).1; omega
    have h1 := h.own k u _ hu (List.getElem?_eq_getElem hk)
    cases hb : u.ownBlock with
    | none => exact .inl rfl
    | some b =>
      right; intro e
      have h2 := (h1.lt b hb).2
      have h3 := (hv.lt b e.symm).1
      omega
  refine ⟨by simp [hvl], ?_, fun k y z hy hz => ?_, fun j k u y hjk hu hy => ?_⟩
  · rw [gateCs_snoc gs vs g v hvl]; simpa using hown
  · by_cases hk : k < vs.length
    · rw [List.getElem?_append_left hk] at hy
      rw [List.getElem?_append_left (by omega)] at hz
      have h1 := own_ext (h.own k y z hy hz) hx
      exact h1.kept hg (own_types h1 (own_ext h.row hx) (by decide))
    · rw [List.getElem?_append_right (by omega)] at hy hz
      rw [← hvl] at hz
      cases hq : k - vs.length with
      | zero =>
        rw [hq] at hy hz
        simp at hy hz
        subst hy; subst hz
        exact (own_base hv hbase).kept hg (own_types hv (own_ext h.row hx) (by decide))
      | succ q => rw [hq] at hy; simp at hy
  · by_cases hj : j < vs.length
    · rw [List.getElem?_append_left hj] at hu
      by_cases hk : k < vs.length
      · rw [List.getElem?_append_left hk] at hy; exact h.apart j k u y hjk hu hy
      · rw [List.getElem?_append_right (by omega)] at hy
        cases hq : k - vs.length with
        | zero => rw [hq] at hy; simp at hy; subst hy; exact old j u hu
        | succ q => rw [hq] at hy; simp at hy
    · rw [List.getElem?_append_right (by omega)] at hu
      cases hq : j - vs.length with
      | zero =>
        rw [hq] at hu; simp at hu; subst hu
        by_cases hk : k < vs.length
        · rw [List.getElem?_append_left hk] at hy
          rcases old k y hy with e | e
          · cases hb : v.ownBlock with
            | none => exact .inl rfl
            | some b => right; rw [e]; exact fun q => by cases q
          · exact .inr (fun q => e q.symm)
        · rw [List.getElem?_append_right (by omega)] at hy
          cases hq2 : k - vs.length with
          | zero => omega
          | succ q => rw [hq2] at hy; simp at hy
      | succ q => rw [hq] at hu; simp at hu
theorem OwnG.slG (h : OwnG w base s gs vs) : ∃ A c, s = .slice A gs.length c ∧ gs.length ≤ c ∧ c ≤ maxLen ∧ SlG w A gs.length gs := by
  obtain ⟨A, c, rfl, h1, h2, hc⟩ := own_slice h.row
  refine ⟨A, c, rfl, h1, h2, rfl, fun k g hg => ?_⟩
  have hk : k < vs.length := by have := h.vl; have := (List.getElem?_eq_some_iff.1 hg).1; omega
  obtain ⟨e0, e1, e2⟩ := gateCs_at gs vs k g _ hg (List.getElem?_eq_getElem hk)
  obtain ⟨b, off, e, c0⟩ := hc _ _ e0
  obtain ⟨b', off', e', c1⟩ := hc _ _ e1
  rw [e] at e'; injection e' with e'; injection e' with q1 q2; subst q1; subst q2
  obtain ⟨b', off', e', c2⟩ := hc _ _ e2
  rw [e] at e'; injection e' with e'; injection e' with q1 q2; subst q1; subst q2
  obtain ⟨A', c', ev, g1, g2, hs⟩ := own_sl (h.own k _ g (List.getElem?_eq_getElem hk) hg)
  exact ⟨b, off, A', g.args.length, c', e, c0, c1, by rw [← Nat.add_assoc] at c2; rw [c2, ev], hs, g1, g2⟩
end
end Go.Proofs.Ytjagbnaacfhokaa
/- A net of the call's own: what Fold and Drop hand back. -/
namespace Go.Proofs.Ytjagbnaacfhokaa
set_option linter.unusedVariables false
set_option linter.unusedSimpArgs false
open Go.RowKit

theorem OwnG.box {w : World} {base b : Nat} {s : Value} {gs : List GateM} {vs : List Value} {cs : List Value} (h : OwnG w base s gs vs) (hb : Box w b 26 cs) (k : Nat) (u : Value) : OwnG (w.setCell ⟨b, k, none⟩ u) base s gs vs := by
  refine h.kept (grownBy_set w b k u) (.inr (hb.apart h.row (by decide))) fun v hv => .inr ?_
  obtain ⟨j, hj⟩ := List.mem_iff_getElem?.1 hv
  have hk : j < gs.length := by have := h.vl; have := (List.getElem?_eq_some_iff.1 hj).1; omega
  exact hb.apart (h.own j v _ hj (List.getElem?_eq_getElem hk)) (by decide)
structure NetO (w : World) (base : Nat) (i : Int) (GA : Option Addr) (gn gc : Nat) (RA : Option Addr) (rn rc : Nat) (OA : Option Addr) (on oc : Nat) (N : NetM) (vs : List Value) : Prop where
  ins : i = N.ins
  gl : N.gates.length = gn
  gates : OwnG w base (.slice GA gn gc) N.gates vs
  regs : w.ownsRow base 78 2 (.slice RA rn rc) rn (storeCs N.regs)
  outs : w.ownsRow base 3 1 (.slice OA on oc) on (N.outs.map I)
section
variable {w w' : World} {base : Nat} {i : Int} {GA : Option Addr} {gn gc : Nat} {RA : Option Addr} {rn rc : Nat} {OA : Option Addr} {on oc : Nat} {N : NetM} {vs : List Value}
theorem NetO.ext (h : NetO w base i GA gn gc RA rn rc OA on oc N vs) (hx : Ext w w') : NetO w' base i GA gn gc RA rn rc OA on oc N vs := ⟨h.ins, h.gl, h.gates.ext hx, own_ext h.regs hx, own_ext h.outs hx⟩
theorem NetO.base_le {base' : Nat} (h : NetO w base i GA gn gc RA rn rc OA on oc N vs) (hb : base' ≤ base) : NetO w base' i GA gn gc RA rn rc OA on oc N vs := ⟨h.ins, h.gl, h.gates.base_le hb, own_base h.regs hb, own_base h.outs hb⟩
theorem NetO.netC (h : NetO w base i GA gn gc RA rn rc OA on oc N vs) : NetC w i GA gn gc RA rn rc OA on oc N := by
  obtain ⟨A, c, e, g1, g2, hg⟩ := h.gates.slG
  injection e with e1 e2 e3
  subst e1; subst e3
  rw [h.gl] at g1 hg
  obtain ⟨A', c', e', r1, r2, -⟩ := own_slice h.regs
  injection e' with e1 _ e3; subst e1; subst e3
  obtain ⟨A', c', e', o1, o2, ho⟩ := own_sl h.outs
  injection e' with e1 _ e3; subst e1; subst e3
  exact ⟨h.ins, hg, slR_own h.regs, ho, ⟨g1, g2⟩, ⟨r1, r2⟩, ⟨o1, o2⟩⟩
end
def zeroN : NetM := ⟨0, [], [], []⟩
theorem NetO.zero (w : World) (base : Nat) : NetO w base 0 none 0 0 none 0 0 none 0 0 zeroN [] := ⟨rfl, rfl, OwnG.nil w base, World.ownsRow_nil _ _ _ _, World.ownsRow_nil _ _ _ _⟩
/-- A call has handed back a net of its own, and an error. -/
def NetRes (w w' : World) (base : Nat) (e : Ending) (x : Int) (N : NetM) : Prop :=
  ∃ i GA gn gc RA rn rc OA on oc vs, e = .returned (Pr (netV i GA gn gc RA rn rc OA on oc) (I x)) ∧ NetO w' base i GA gn gc RA rn rc OA on oc N vs ∧ Ext w w'
def foldR (N : NetM) : NetM := if checkN N = 0 then foldN N else zeroN
def dropR (N : NetM) : NetM := if checkN N = 0 then dropN N else zeroN
theorem opens_asked {N : NetM} (ok : NetOK N) : AskedOK N (opensM N.regs.length) (opensM N.ins.toNat) :=
  ⟨ok, by simp [opensM], by have := ok.ins0; simp [opensM]; omega, opens_good _, opens_good _⟩
theorem tab_gate : (Try.prog.info? 34).map (fun i => (i.zero, i.size, i.bytes)) = some (some (.agg #[.int .i64 0, .int .i64 0, .slice none 0 0]), 3, 40) := by kernel_rfl
theorem take_snoc {α : Type} {l : List α} {k : Nat} {x : α} (h : l[k]? = some x) : l.take (k + 1) = l.take k ++ [x] := by rw [List.take_add_one, h]; rfl
end Go.Proofs.Ytjagbnaacfhokaa
