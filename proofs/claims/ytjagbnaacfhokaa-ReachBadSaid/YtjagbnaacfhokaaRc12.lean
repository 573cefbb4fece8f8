/- What sweep calls of Go's library: stores cloned, a number repeated, rows one behind the other; boxes of the call's own. -/
import Derived.Test.YtjagbnaacfhokaaRc11
import Derived.Laws.CopyOwn
import Derived.Maps.OwnSet
import Derived.Maps.Views
import Derived.Maps.OwnOps
import Derived.StringKeys
import Derived.Test.YtjagbnaacfhokaaRc03
namespace Go.Proofs.Ytjagbnaacfhokaa
set_option linter.unusedVariables false
set_option linter.unusedSimpArgs false
open Go.RowKit

/-- A block of the call's own that holds these cells. -/
def Box (w : World) (b : Nat) (T : TypeId) (cs : List Value) : Prop := w.heap[b]? = some (.cells cs.toArray T (0, 0))
section
variable {w w' : World} {b : Nat} {T : TypeId} {cs : List Value}
theorem Box.lt (h : Box w b T cs) : b < w.heap.size := (Array.getElem?_eq_some_iff.1 h).1
theorem Box.cell (h : Box w b T cs) (k : Nat) : w.cell? ⟨b, k, none⟩ = cs[k]? := by rw [cell_of_row w b k cs.toArray T (0, 0) h]; simp
theorem Box.free (h : Box w b T cs) (k : Nat) : w.frozen? ⟨b, k, none⟩ = false := frozen_of_row w b k cs.toArray T h
theorem Box.ext (h : Box w b T cs) (hx : Ext w w') : Box w' b T cs := (hx.block b h.lt).trans h
theorem Box.set (h : Box w b T cs) (k : Nat) (u : Value) : Box (w.setCell ⟨b, k, none⟩ u) b T (cs.set k u) := by
  have := heap_setCell_same w b k cs.toArray T u h
  unfold Box; rw [this]; simp
theorem Box.kept {row : Option Nat} (h : Box w b T cs) (hg : w.grownBy w' row) (hne : row ≠ some b) : Box w' b T cs :=
  (hg.block b h.lt (fun e => hne e.symm)).trans h
theorem Box.new (w : World) (cs : List Value) (T : TypeId) : Box (w.alloc (.cells cs.toArray T)) w.heap.size T cs := heap_alloc_new w _
theorem Box.apart (h : Box w b T cs) {base : Nat} {e : TypeId} {size n : Nat} {v : Value} {xs : List Value} (ho : w.ownsRow base e size v n xs) (hne : e ≠ T) : v.ownBlock ≠ some b := by
  rcases ho.2 with ⟨rfl, _⟩ | ⟨g, cap, cur, rfl, _, hg, _⟩
  · simp [Value.ownBlock]
  · intro e1
    have e2 : g = b := Option.some.inj e1
    subst e2
    rw [h] at hg; injection hg with hg; injection hg with _ h3 _
    exact hne h3.symm
theorem own_set {base : Nat} {e : TypeId} {size n : Nat} {v : Value} {xs : List Value} (ho : w.ownsRow base e size v n xs) (hb : v.ownBlock ≠ some b) (k : Nat) (u : Value) : (w.setCell ⟨b, k, none⟩ u).ownsRow base e size v n xs := own_other ho hb
end

/-- Cells that stand behind one another from a slice's head on. -/
def SlC (w : World) (A : Option Addr) (cs : List Value) : Prop := ∀ (j : Nat) u, cs[j]? = some u → ∃ b off, A = some ⟨b, off, none⟩ ∧ w.cell? ⟨b, off + j, none⟩ = some u
theorem SlC.keep {w w' : World} {A : Option Addr} {cs : List Value} (h : SlC w A cs) (hk : Keeps w w') : SlC w' A cs :=
  fun j u hu => let ⟨b, o, e, hc⟩ := h j u hu; ⟨b, o, e, hk _ _ hc⟩
/-- append of all of a slice of elements of some cells onto a row of the call's own. -/
theorem wpList_appendC {P : Program} {ops : Array Oper} {rest : List Oper} {o : Oper} {a : Act} {Q : Exit → Act → World → Prop} {w : World} (hgd : o.guard = none) (s x : Operand) (t e : TypeId)
    (ho : o.op = .call { callee := .builtin .append, args := #[s, x], argTypes := #[t, t] })
    {z : Value} {size bytes : Nat} (tab : (P.info? e).map (fun i => (i.zero, i.size, i.bytes)) = some (some z, size, bytes)) (ht : P.underlying t = some (.slice e)) (hzs : z.cells.size = size) (hsz : 0 < size)
    (W0 : World) (hext : Ext W0 w) (v : Value) (n : Nat) (xs : List Value) (hs : a.eval s = v) (hown : w.ownsRow W0.heap.size e size v n xs)
    (A : Option Addr) (m c : Nat) (news : List Value) (hx : a.eval x = .slice A m c) (hl : news.length = m * size) (hr : SlC w A news) (h1 : ∀ u ∈ news, u.oneCell' = true)
    (h63 : n + m ≤ maxLen) (hbytes : (n + m) * bytes ≤ 140737488355328)
    (h : ∀ v' w', w'.ownsRow W0.heap.size e size v' (n + m) (xs ++ news) → Ext W0 w' → w.grownBy w' v.ownBlock → wpList P ops Q rest (a.put o.dst v') w') : wpList P ops Q (o :: rest) a w := by
  obtain ⟨i, hi, hz, hs1, hs2⟩ := info_parts tab
  have hb : ∀ k, v.ownBlock = some k → W0.heap.size ≤ k := fun k hk => (hown.lt k hk).1
  cases A with
  | none =>
    have hm : m = 0 := by
      rcases Nat.eq_zero_or_pos m with e | e
      · exact e
      · have hl : 0 < news.length := by rw [hl]; exact Nat.mul_pos e hsz
        obtain ⟨b, off, e2, _⟩ := hr 0 _ (List.getElem?_eq_getElem hl)
        cases e2
    subst hm
    have hn : news = [] := List.eq_nil_of_length_eq_zero (by simpa using hl)
    subst hn
    refine wpList_plain hgd fun K hK => ?_
    unfold Oper.wp execOp
    simp only [ho, resolve, invoke, builtin, Sem.run_bind, Sem.run_pure, Result.andThen_ok, List.map_toArray, List.map_cons, List.map_nil, hs, hx, append_of_nil (P := P) w W0.heap.size t o.type e i size ht hi v n xs hown c]
    exact hK _ _ (h v w (by simpa using hown) hext (World.grownBy.refl w _))
  | some ad =>
    have hcells : ∀ j u, news[j]? = some u → w.cell? (ad.add j) = some u := by
      intro j u hu
      obtain ⟨b, off, e2, hc⟩ := hr j u hu
      injection e2 with e2
      subst e2
      rw [add_plain']; exact hc
    refine wpList_append_own _ hgd s x t ho W0.heap.size e i z size bytes ht hi hz hs1 hs2 hzs hsz v n xs hs hown ad m c news hx hl hcells h1 h63 hbytes hext.size ?_
    intro v' w' hown' hg _
    exact h v' w' hown' (Below.grown hext hg hext.size hb) hg

def storeCs (rs : List StoreM) : List Value := rs.flatMap fun r => [RB r, RN r]
theorem storeCs_len (rs : List StoreM) : (storeCs rs).length = rs.length * 2 := by
  unfold storeCs
  induction rs with
  | nil => rfl
  | cons r rs ih => simp only [List.flatMap_cons, List.length_append, List.length_cons, List.length_nil, ih]; omega
theorem storeCs_one (rs : List StoreM) : ∀ u ∈ storeCs rs, u.oneCell' = true := by
  intro u hu
  obtain ⟨r, _, hr⟩ := List.mem_flatMap.1 hu
  simp at hr
  rcases hr with rfl | rfl <;> rfl
theorem slR_cells {w : World} {A : Option Addr} {n : Nat} {rs : List StoreM} (h : SlR w A n rs) : SlC w A (storeCs rs) := by
  intro j u hu
  have hl := storeCs_len rs
  have hj := (List.getElem?_eq_some_iff.1 hu).1
  have hk : j / 2 < rs.length := by omega
  obtain ⟨b, off, e, h0, h1⟩ := h.2 (j / 2) _ (List.getElem?_eq_getElem hk)
  have hf := flat2_get RB RN rs (j / 2)
  rw [List.getElem?_eq_getElem hk] at hf
  refine ⟨b, off, e, ?_⟩
  rcases Nat.mod_two_eq_zero_or_one j with q | q
  · have ej : j / 2 * 2 = j := by omega
    rw [ej] at h0 hf
    unfold storeCs at hu; rw [hf.1] at hu
    rw [h0]; simpa using hu
  · have ej : j / 2 * 2 + 1 = j := by omega
    rw [Nat.add_assoc, ej] at h1
    rw [ej] at hf
    unfold storeCs at hu; rw [hf.2] at hu
    rw [h1]; simpa using hu
theorem slR_own {w : World} {base : Nat} {A : Option Addr} {n c : Nat} {rs : List StoreM} (h : w.ownsRow base 78 2 (.slice A n c) n (storeCs rs)) : SlR w A n rs := by
  have hl : rs.length = n := by have := h.1; rw [storeCs_len] at this; omega
  obtain ⟨A', c', e, -, -, hc⟩ := own_slice h
  injection e with e _ _; subst e
  refine ⟨hl, fun k r hr => ?_⟩
  have hf := flat2_get RB RN rs k
  rw [hr] at hf
  obtain ⟨b, off, e1, c1⟩ := hc _ _ hf.1
  obtain ⟨b', off', e2, c2⟩ := hc _ _ hf.2
  rw [e1] at e2; injection e2 with e2; injection e2 with e2 e3; subst e2; subst e3
  exact ⟨b, off, e1, c1, c2⟩
theorem tab_store : (Try.prog.info? 78).map (fun i => (i.zero, i.size, i.bytes)) = some (some (.agg #[.bool false, .int .i64 0]), 2, 16) := by kernel_rfl
/-- slices.Clone of stores: a row of the call's own. -/
theorem cloneStores_any (A : Option Addr) (n c : Nat) (rs : List StoreM) (w : World) (h : SlR w A n rs) (hn : n ≤ 1000000) :
    Calls Try.prog 105 #[.slice A n c] w fun e w' => ∃ v, e = .returned v ∧ w'.ownsRow w.heap.size 78 2 v n (storeCs rs) ∧ Ext w w' := by
  have hnil := fun W a l c => Lib.run_eql_slice_nil (P := Try.prog) W 23 78 a l c 0 0 Try.underlying23
  cases A with
  | none =>
    have hm : n = 0 := by
      rcases Nat.eq_zero_or_pos n with e | e
      · exact e
      · obtain ⟨b, off, x, e2, _⟩ := h.next e; cases e2
    subst hm
    have hx : rs = [] := List.eq_nil_of_length_eq_zero h.1
    subst hx
    go_enter Try.func105, Try.ntmps105
    go_wp2
    go_ret
    exact ⟨_, rfl, World.ownsRow_nil _ _ _ _, Ext.refl _⟩
  | some ad =>
    have H := Lib.hid (h.keep (Keeps.alloc w (.cells #[] 78))); clear h
    go_enter Try.func105, Try.ntmps105
    go_wp2_with (at_builtin; refine wpList_appendC rfl (.tmp 5) (.tmp 6) 23 78 rfl tab_store Try.underlying23 rfl (by omega) w ((Ext.refl w).alloc _) _ 0 [] rfl (own_empty w _ _ _ (Nat.le_refl _)) (some ad) n c (storeCs rs) rfl (by rw [storeCs_len, H.out.1]) (slR_cells H.out) (storeCs_one rs) (by unfold maxLen; omega) (by omega) ?_; intro v' w2 hown2 hx3 _)
    go_ret
    exact ⟨_, rfl, by simpa using hown2, hx3⟩
end Go.Proofs.Ytjagbnaacfhokaa
/- A map of integers, keyed by strings, that the call itself makes: its entries as a function. -/
namespace Go.Proofs.Ytjagbnaacfhokaa
set_option linter.unusedVariables false
set_option linter.unusedSimpArgs false
open Go.RowKit Go.Maps Go.WideMaps

abbrev SK (s : List UInt8) : Value := .string ⟨s.toArray⟩
/-- Block b is a map of at most n entries; at k stands f k (0 where there is none). -/
def MapK (w : World) (b n : Nat) (f : List UInt8 → Int) : Prop :=
  ∃ D : DataW Unit, w.ownsMap Try.prog 9 (plainElem Try.prog 3) b n D ∧ IsMap D ∧ ∀ k, D.atKey (.string k) (.lit (.int .i64 0)) = .lit (.int .i64 (f k))
theorem mapK_law : Keyed Try.prog 9 := string_keyed Try.underlying9
theorem MapK.made (w : World) : MapK (w.alloc (.map #[] 0)) w.heap.size 0 (fun _ => 0) := ⟨.map [], World.ownsMap_made _ _ _ _, isMap_empty, fun _ => rfl⟩
theorem isKeyK (k : List UInt8) : WideAt.IsKeyLit (.string k) := by trivial
theorem zero_intK (w : World) : (zeroValue 3).run Try.prog w = .ok (.int .i64 0) w := by kernel_rfl
section
variable {w w' : World} {b n : Nat} {f : List UInt8 → Int}
theorem MapK.lt (h : MapK w b n f) : b < w.heap.size := by obtain ⟨D, h1, -⟩ := h; exact h1.lt
theorem MapK.kept {row : Option Nat} (h : MapK w b n f) (hg : w.grownBy w' row) (hne : some b ≠ row) : MapK w' b n f := by
  obtain ⟨D, h1, h2, h3⟩ := h; exact ⟨D, h1.kept hg hne, h2, h3⟩
theorem MapK.ext (h : MapK w b n f) (hx : Ext w w') : MapK w' b n f := by
  obtain ⟨D, ⟨es, clock, hb, F, hs, hD⟩, h2, h3⟩ := h
  exact ⟨D, ⟨es, clock, (hx.block b (Array.getElem?_eq_some_iff.1 hb).1).trans hb, F, hs, hD⟩, h2, h3⟩
theorem MapK.set (h : MapK w b n f) {g : Nat} (hg : g ≠ b) (j : Nat) (v : Value) : MapK (w.setCell ⟨g, j, none⟩ v) b n f := h.kept (row := some g) ⟨rfl, rfl, rfl, by simp, fun k _ hk => heap_setCell_other w ⟨g, j, none⟩ k v (fun e => hk (by simp [e]))⟩ (by simpa using fun e => hg e.symm)
/-- A map's block is no row's and no box's. -/
theorem MapK.ne_row (h : MapK w b n f) {base : Nat} {e : TypeId} {size m : Nat} {v : Value} {xs : List Value} (ho : w.ownsRow base e size v m xs) : some b ≠ v.ownBlock := by
  obtain ⟨D, ⟨es, clock, hb, -⟩, -⟩ := h
  rcases ho.2 with ⟨rfl, _⟩ | ⟨g, cap, cur, rfl, _, hg, _⟩
  · simp [Value.ownBlock]
  · intro e1
    have e2 : b = g := Option.some.inj e1
    subst e2
    rw [hb] at hg; injection hg with hg; cases hg
theorem MapK.ne_box (h : MapK w b n f) {g : Nat} {T : TypeId} {cs : List Value} (hb : Box w g T cs) : g ≠ b := by
  obtain ⟨D, ⟨es, clock, hm, -⟩, -⟩ := h
  rintro rfl
  unfold Box at hb
  rw [hm] at hb; injection hb with hb; cases hb
end
theorem wpList_updateK {w : World} {ops : Array Oper} {rest : List Oper} {o : Oper} {a : Act} {Q : Exit → Act → World → Prop}
    (hg : o.guard = none) (m x v : Operand) (hop : o.op = Op.mapUpdate 104 m x v) (b n : Nat) (f : List UInt8 → Int) (hm : a.eval m = .map (some b)) (hown : MapK w b n f) (hn : n < maxLen)
    (k : List UInt8) (y : Int) (hx : a.eval x = SK k) (hv : a.eval v = I y) (hk : k.length ≤ maxLen) (hy : (Lit.int .i64 y).wf = true)
    (hK : ∀ w', MapK w' b (n + 1) (fun j => if j = k then y else f j) → w.grownBy w' (some b) → wpList Try.prog ops Q rest (a.put o.dst undef) w') :
    wpList Try.prog ops Q (o :: rest) a w := by
  obtain ⟨D, hD, hi, hf⟩ := hown
  refine wpList_plain hg fun K' hK' => ?_
  obtain ⟨w', hrun, r1, r2⟩ := hD.update mapK_law Try.underlying104 hn (keyOf_string_mk (s := ⟨k.toArray⟩) Try.underlying9 (by simpa [ByteArray.size] using hk)) (plainElem_int (H := Unit) Try.underlying3 hy)
  unfold Oper.wp
  simp [execOp, hop, hm, hx, hv, hrun, Result.andThen]
  refine hK' _ _ (hK w' ⟨_, r1, hi.put _ _, fun j => ?_⟩ r2)
  by_cases e : j = k
  · subst e; rw [atKey_put_same hi (isKeyK j)]; simp
  · rw [atKey_put_other (fun h => e (by injection h)), hf]; simp [e]
theorem wp_lookupK {w : World} {o : Oper} {a : Act} {K : Act → World → Prop} {Q : Exit → Act → World → Prop}
    (m x : Operand) (hop : o.op = Op.lookup 104 m x false) (b n : Nat) (f : List UInt8 → Int) (hm : a.eval m = .map (some b)) (hown : MapK w b n f)
    (k : List UInt8) (hx : a.eval x = SK k) (hk : k.length ≤ maxLen) (l : Int) (hl : f k = l) (hK : K (a.put o.dst (I l)) w) : o.wp Try.prog a w K Q := by
  subst hl
  obtain ⟨D, hD, hi, hf⟩ := hown
  obtain ⟨c, hrun, hat, -⟩ := hD.lookup_int mapK_law Try.underlying104 Try.underlying3 (zero_intK w) (keyOf_string_mk (s := ⟨k.toArray⟩) Try.underlying9 (by simpa [ByteArray.size] using hk))
  rw [hf k] at hat
  injection hat with hat; injection hat with _ hat
  subst hat
  unfold Oper.wp
  simp [execOp, hop, hm, hx, hrun, Result.andThen]
  exact hK
theorem wpList_lookupK {w : World} {ops : Array Oper} {rest : List Oper} {o : Oper} {a : Act} {Q : Exit → Act → World → Prop}
    (hg : o.guard = none) (m x : Operand) (hop : o.op = Op.lookup 104 m x false) (b n : Nat) (f : List UInt8 → Int) (hm : a.eval m = .map (some b)) (hown : MapK w b n f)
    (k : List UInt8) (hx : a.eval x = SK k) (hk : k.length ≤ maxLen) (l : Int) (hl : f k = l) (hK : wpList Try.prog ops Q rest (a.put o.dst (I l)) w) : wpList Try.prog ops Q (o :: rest) a w :=
  wpList_plain hg fun K' hK' => wp_lookupK m x hop b n f hm hown k hx hk l hl (hK' _ _ hK)
end Go.Proofs.Ytjagbnaacfhokaa
/- What is reached, in plain Lean. No Go in sight. -/
namespace Go.Proofs.Ytjagbnaacfhokaa
set_option linter.unusedVariables false
set_option linter.unusedSimpArgs false

abbrev Place := List Int × List Int
inductive ReachR
  | bad (way : List Int)
  | many
  | ok (ps : List Place)
def seenM (ps : List Place) (r : List Int) : Bool := ps.any fun p => decide (p.1 = r)
def stepX (N : NetM) (p : Place) : List Int → List Place → ReachR
  | [], ps => .ok ps
  | x :: xs, ps =>
    match turnN N p.1 (bitsM x N.ins.toNat) with
    | none => .bad (p.2 ++ [x])
    | some o => if seenM ps o.2 then stepX N p xs ps else if ps.length = 64 then .many else stepX N p xs (ps ++ [(o.2, p.2 ++ [x])])
def upX : Nat → List Int
  | 0 => []
  | n + 1 => upX n ++ [(n : Int)]
def walkX (N : NetM) : Nat → Nat → List Place → ReachR
  | 0, _, ps => .ok ps
  | f + 1, k, ps =>
    match ps[k]? with
    | none => .ok ps
    | some p =>
      match stepX N p (upX (2 ^ N.ins.toNat)) ps with
      | .ok qs => walkX N f (k + 1) qs
      | .bad w => .bad w
      | .many => .many
def reachM (N : NetM) : ReachR := walkX N 65 0 [(firstM N, [])]

theorem mem_upX (n : Nat) (x : Int) : x ∈ upX n ↔ 0 ≤ x ∧ x < n := by
  induction n with
  | zero => simp [upX] <;> omega
  | succ n ih => simp only [upX, List.mem_append, ih, List.mem_cons, List.not_mem_nil, or_false]; omega
/-- Places that were reached so. -/
structure PlacesOK (N : NetM) (ps : List Place) : Prop where
  ways : ∀ p ∈ ps, (∃ rows, runFrom N (firstM N) p.2 = some (rows, p.1)) ∧ ∀ x ∈ p.2, 0 ≤ x ∧ x < (2 ^ N.ins.toNat : Nat)
  dis : (ps.map (·.1)).Nodup
  few : ps.length ≤ 64
theorem seen_iff {ps : List Place} {r : List Int} : seenM ps r = true ↔ r ∈ ps.map (·.1) := by
  unfold seenM
  rw [List.any_eq_true, List.mem_map]
  constructor
  · rintro ⟨p, hp, h⟩; exact ⟨p, hp, by simpa using h⟩
  · rintro ⟨p, hp, h⟩; exact ⟨p, hp, by simpa using h⟩
theorem way_next {N : NetM} {p : Place} {x : Int} {o : List Int × List Int} (h : ∃ rows, runFrom N (firstM N) p.2 = some (rows, p.1)) (ht : turnN N p.1 (bitsM x N.ins.toNat) = some o) :
    ∃ rows, runFrom N (firstM N) (p.2 ++ [x]) = some (rows, o.2) := by
  obtain ⟨rows, h⟩ := h
  rw [runFrom_snoc, h]; simp [ht]
theorem way_none {N : NetM} {p : Place} {x : Int} (h : ∃ rows, runFrom N (firstM N) p.2 = some (rows, p.1)) (ht : turnN N p.1 (bitsM x N.ins.toNat) = none) : runFrom N (firstM N) (p.2 ++ [x]) = none := by
  obtain ⟨rows, h⟩ := h
  rw [runFrom_snoc, h]; simp [ht]
theorem PlacesOK.add {N : NetM} {ps : List Place} (h : PlacesOK N ps) {p : Place} (hp : p ∈ ps) {x : Int} (hx : 0 ≤ x ∧ x < (2 ^ N.ins.toNat : Nat)) {o : List Int × List Int} (ht : turnN N p.1 (bitsM x N.ins.toNat) = some o)
    (hs : seenM ps o.2 = false) (hl : ps.length ≠ 64) : PlacesOK N (ps ++ [(o.2, p.2 ++ [x])]) := by
  refine ⟨fun q hq => ?_, ?_, by have := h.few; simp; omega⟩
  · rcases List.mem_append.1 hq with e | e
    · exact h.ways q e
    · simp at e; subst e
      refine ⟨way_next (h.ways p hp).1 ht, fun y hy => ?_⟩
      rcases List.mem_append.1 hy with e | e
      · exact (h.ways p hp).2 y e
      · simp at e; subst e; exact hx
  · rw [List.map_append, List.nodup_append]
    refine ⟨h.dis, by simp, fun a ha b hb => ?_⟩
    simp at hb; subst hb
    intro e; subst e
    rw [(seen_iff).2 ha] at hs; cases hs
/-- All that a step finds. -/
theorem stepX_ok {N : NetM} {p : Place} : ∀ (xs : List Int) (ps : List Place), PlacesOK N ps → p ∈ ps → (∀ x ∈ xs, 0 ≤ x ∧ x < (2 ^ N.ins.toNat : Nat)) →
    match stepX N p xs ps with
    | .ok qs => PlacesOK N qs ∧ (∃ r, qs = ps ++ r) ∧ ∀ x ∈ xs, ∃ o, turnN N p.1 (bitsM x N.ins.toNat) = some o ∧ o.2 ∈ qs.map (·.1)
    | .bad w => ∃ w', w = w' ++ [w.getLast?.getD 0] ∧ runFrom N (firstM N) w = none ∧ (runFrom N (firstM N) w' ≠ none) ∧ ∀ x ∈ w, 0 ≤ x ∧ x < (2 ^ N.ins.toNat : Nat)
    | .many => True
  | [], ps, h, _, _ => ⟨h, ⟨[], by simp⟩, by simp⟩
  | x :: xs, ps, h, hp, hx => by
    simp only [stepX]
    cases ht : turnN N p.1 (bitsM x N.ins.toNat) with
    | none =>
      simp only
      obtain ⟨rows, hw⟩ := (h.ways p hp).1
      refine ⟨p.2, by simp, way_none (h.ways p hp).1 ht, by rw [hw]; simp, fun y hy => ?_⟩
      rcases List.mem_append.1 hy with e | e
      · exact (h.ways p hp).2 y e
      · simp at e; subst e; exact hx _ (by simp)
    | some o =>
      simp only
      cases hs : seenM ps o.2 with
      | true =>
        simp only [if_true]
        have ih := stepX_ok xs ps h hp (fun y hy => hx y (by simp [hy]))
        cases hr : stepX N p xs ps with
        | ok qs =>
          rw [hr] at ih
          obtain ⟨h1, ⟨r, h2⟩, h3⟩ := ih
          refine ⟨h1, ⟨r, h2⟩, fun y hy => ?_⟩
          rcases List.mem_cons.1 hy with e | e
          · subst e
            refine ⟨o, ht, ?_⟩
            rw [h2, List.map_append, List.mem_append]; exact .inl (seen_iff.1 hs)
          · exact h3 y e
        | bad w => rw [hr] at ih; exact ih
        | many => trivial
      | false =>
        simp only [Bool.false_eq_true, if_false]
        by_cases hl : ps.length = 64
        · rw [if_pos hl]; trivial
        · rw [if_neg hl]
          have ih := stepX_ok xs (ps ++ [(o.2, p.2 ++ [x])]) (h.add hp (hx x (by simp)) ht hs hl) (List.mem_append.2 (.inl hp)) (fun y hy => hx y (by simp [hy]))
          cases hr : stepX N p xs (ps ++ [(o.2, p.2 ++ [x])]) with
          | ok qs =>
            rw [hr] at ih
            obtain ⟨h1, ⟨r, h2⟩, h3⟩ := ih
            refine ⟨h1, ⟨(o.2, p.2 ++ [x]) :: r, by simp [h2]⟩, fun y hy => ?_⟩
            rcases List.mem_cons.1 hy with e | e
            · subst e
              refine ⟨o, ht, ?_⟩
              rw [h2]; simp
            · exact h3 y e
          | bad w => rw [hr] at ih; exact ih
          | many => trivial
/-- What the walk finds: closed under all inputs. -/
theorem walkX_ok {N : NetM} : ∀ (f k : Nat) (ps : List Place), PlacesOK N ps → ps.length < f + k → k ≤ ps.length → (∀ (i : Nat) (p : Place), i < k → ps[i]? = some p → ∀ x : Int, 0 ≤ x → x < (2 ^ N.ins.toNat : Nat) → ∃ o, turnN N p.1 (bitsM x N.ins.toNat) = some o ∧ o.2 ∈ ps.map (·.1)) → 64 < f + k →
    match walkX N f k ps with
    | .ok qs => PlacesOK N qs ∧ (∃ r, qs = ps ++ r) ∧ ∀ p ∈ qs, ∀ x : Int, 0 ≤ x → x < (2 ^ N.ins.toNat : Nat) → ∃ o, turnN N p.1 (bitsM x N.ins.toNat) = some o ∧ o.2 ∈ qs.map (·.1)
    | .bad w => ∃ w', w = w' ++ [w.getLast?.getD 0] ∧ runFrom N (firstM N) w = none ∧ (runFrom N (firstM N) w' ≠ none) ∧ ∀ x ∈ w, 0 ≤ x ∧ x < (2 ^ N.ins.toNat : Nat)
    | .many => True
  | 0, k, ps, h, hf, hk, _, _ => by omega
  | f + 1, k, ps, h, hf, hk, hc, h64 => by
    simp only [walkX]
    cases hp : ps[k]? with
    | none =>
      simp only
      refine ⟨h, ⟨[], by simp⟩, fun p hpm => ?_⟩
      obtain ⟨i, hi⟩ := List.mem_iff_getElem?.1 hpm
      have h1 := (List.getElem?_eq_some_iff.1 hi).1
      have h2 : ps.length ≤ k := by rwa [List.getElem?_eq_none_iff] at hp
      exact hc i p (by omega) hi
    | some p =>
      simp only
      have hs := stepX_ok (upX (2 ^ N.ins.toNat)) ps h (List.mem_of_getElem? hp) (fun x hx => (mem_upX _ _).1 hx)
      cases hr : stepX N p (upX (2 ^ N.ins.toNat)) ps with
      | bad w => rw [hr] at hs; exact hs
      | many => trivial
      | ok qs =>
        rw [hr] at hs
        obtain ⟨h1, ⟨r, h2⟩, h3⟩ := hs
        simp only
        have hkl := (List.getElem?_eq_some_iff.1 hp).1
        have hql : ps.length ≤ qs.length := by rw [h2]; simp
        have ih := walkX_ok f (k + 1) qs h1 (by have := h1.few; omega) (by omega) (fun i q hi hq x x0 x1 => by
          have hil : i < ps.length := by omega
          have hq' : ps[i]? = some q := by rw [h2, List.getElem?_append_left hil] at hq; exact hq
          by_cases e : i = k
          · subst e; rw [hp] at hq'; injection hq' with hq'; subst hq'
            exact h3 x ((mem_upX _ _).2 ⟨x0, x1⟩)
          · obtain ⟨o, ho, hm⟩ := hc i q (by omega) hq' x x0 x1
            exact ⟨o, ho, by rw [h2, List.map_append, List.mem_append]; exact .inl hm⟩) (by omega)
        cases hw : walkX N f (k + 1) qs with
        | bad w => rw [hw] at ih; exact ih
        | many => trivial
        | ok rs =>
          rw [hw] at ih
          obtain ⟨k1, ⟨r', k2⟩, k3⟩ := ih
          exact ⟨k1, ⟨r ++ r', by rw [k2, h2]; simp⟩, k3⟩
theorem reach_start (N : NetM) : PlacesOK N [(firstM N, [])] := ⟨fun p hp => by simp at hp; subst hp; exact ⟨⟨[], rfl⟩, by simp⟩, by simp, by simp⟩
theorem reach_ok {N : NetM} {qs : List Place} (h : reachM N = .ok qs) : PlacesOK N qs ∧ (∃ r, qs = (firstM N, []) :: r) ∧ ∀ p ∈ qs, ∀ x : Int, 0 ≤ x → x < (2 ^ N.ins.toNat : Nat) → ∃ o, turnN N p.1 (bitsM x N.ins.toNat) = some o ∧ o.2 ∈ qs.map (·.1) := by
  have := walkX_ok 65 0 _ (reach_start N) (by simp) (by simp) (fun i p hi => by omega) (by decide)
  unfold reachM at h
  rw [h] at this; exact this
theorem reach_bad {N : NetM} {w : List Int} (h : reachM N = .bad w) : ∃ w' x, w = w' ++ [x] ∧ runFrom N (firstM N) w = none ∧ (runFrom N (firstM N) w' ≠ none) ∧ ∀ x ∈ w, 0 ≤ x ∧ x < (2 ^ N.ins.toNat : Nat) := by
  have := walkX_ok 65 0 _ (reach_start N) (by simp) (by simp) (fun i p hi => by omega) (by decide)
  unfold reachM at h
  rw [h] at this
  obtain ⟨w', h1, h2⟩ := this
  exact ⟨w', _, h1, h2⟩
/-- Wherever a run ends is a state that is reached. -/
theorem run_reached {N : NetM} {qs : List Place} (hc : ∀ p ∈ qs, ∀ x : Int, 0 ≤ x → x < (2 ^ N.ins.toNat : Nat) → ∃ o, turnN N p.1 (bitsM x N.ins.toNat) = some o ∧ o.2 ∈ qs.map (·.1)) :
    ∀ (l r : List Int), r ∈ qs.map (·.1) → (∀ x ∈ l, 0 ≤ x ∧ x < (2 ^ N.ins.toNat : Nat)) → ∃ rows e, runFrom N r l = some (rows, e) ∧ e ∈ qs.map (·.1)
  | [], r, hr, _ => ⟨[], r, rfl, hr⟩
  | x :: l, r, hr, hl => by
    obtain ⟨p, hp, rfl⟩ := List.mem_map.1 hr
    obtain ⟨o, ho, hm⟩ := hc p hp x (hl x (by simp)).1 (hl x (by simp)).2
    obtain ⟨rows, e, h1, h2⟩ := run_reached hc l o.2 hm (fun y hy => hl y (by simp [hy]))
    exact ⟨o.1 :: rows, e, by simp [runFrom, ho, h1], h2⟩
end Go.Proofs.Ytjagbnaacfhokaa
/- The walker's places: an own row of pairs of slices. -/
namespace Go.Proofs.Ytjagbnaacfhokaa
set_option linter.unusedVariables false
set_option linter.unusedSimpArgs false
open Go.RowKit

def placeCs (vs : List (Value × Value)) : List Value := vs.flatMap fun v => [v.1, v.2]
theorem placeCs_snoc (vs : List (Value × Value)) (v : Value × Value) : placeCs (vs ++ [v]) = placeCs vs ++ [v.1, v.2] := by simp [placeCs]
structure OwnP (w : World) (base : Nat) (T : TypeId) (s : Value) (ps : List Place) (vs : List (Value × Value)) : Prop where
  vl : vs.length = ps.length
  row : w.ownsRow base T 2 s ps.length (placeCs vs)
  own : ∀ (k : Nat) v (p : Place), vs[k]? = some v → ps[k]? = some p → w.ownsRow base 3 1 v.1 p.1.length (p.1.map I) ∧ w.ownsRow base 3 1 v.2 p.2.length (p.2.map I)
section
variable {w w' : World} {base : Nat} {T : TypeId} {s : Value} {ps : List Place} {vs : List (Value × Value)}
theorem OwnP.nil (w : World) (base : Nat) (T : TypeId) : OwnP w base T (.slice none 0 0) [] [] := ⟨rfl, World.ownsRow_nil _ _ _ _, fun k v p h => by simp at h⟩
theorem OwnP.ext (h : OwnP w base T s ps vs) (hx : Ext w w') : OwnP w' base T s ps vs := ⟨h.vl, own_ext h.row hx, fun k v p hv hp => ⟨own_ext (h.own k v p hv hp).1 hx, own_ext (h.own k v p hv hp).2 hx⟩⟩
theorem OwnP.push (h : OwnP w base T s ps vs) (hT : 3 ≠ T) {s' : Value} {v : Value × Value} {p : Place} (h1 : w.ownsRow base 3 1 v.1 p.1.length (p.1.map I)) (h2 : w.ownsRow base 3 1 v.2 p.2.length (p.2.map I))
    (hown : w'.ownsRow base T 2 s' (ps.length + 1) (placeCs vs ++ [v.1, v.2])) (hg : w.grownBy w' s.ownBlock) : OwnP w' base T s' (ps ++ [p]) (vs ++ [v]) := by
  have hvl := h.vl
  refine ⟨by simp [hvl], ?_, fun k y z hy hz => ?_⟩
  · rw [placeCs_snoc]; simpa using hown
  · have key : ∀ {u : Value} {xs : List Int}, w.ownsRow base 3 1 u xs.length (xs.map I) → w'.ownsRow base 3 1 u xs.length (xs.map I) := fun hu => hu.kept hg (own_types hu h.row hT)
    by_cases hk : k < vs.length
    · rw [List.getElem?_append_left hk] at hy
      rw [List.getElem?_append_left (by omega)] at hz
      exact ⟨key (h.own k y z hy hz).1, key (h.own k y z hy hz).2⟩
    · rw [List.getElem?_append_right (by omega)] at hy hz
      rw [← hvl] at hz
      cases hq : k - vs.length with
      | zero =>
        rw [hq] at hy hz
        simp at hy hz
        subst hy; subst hz
        exact ⟨key h1, key h2⟩
      | succ q => rw [hq] at hy; simp at hy
theorem OwnP.set (h : OwnP w base T s ps vs) {b : Nat} {T' : TypeId} {cs : List Value} (hb : Box w b T' cs) (hT : T ≠ T') (hi : 3 ≠ T') (k : Nat) (u : Value) : OwnP (w.setCell ⟨b, k, none⟩ u) base T s ps vs :=
  ⟨h.vl, own_set h.row (hb.apart h.row hT) _ _, fun j v p hv hp => ⟨own_set (h.own j v p hv hp).1 (hb.apart (h.own j v p hv hp).1 hi) _ _, own_set (h.own j v p hv hp).2 (hb.apart (h.own j v p hv hp).2 hi) _ _⟩⟩
theorem OwnP.mapped (h : OwnP w base T s ps vs) {mb n : Nat} {f : List UInt8 → Int} (hm : MapK w mb n f) (hg : w.grownBy w' (some mb)) : OwnP w' base T s ps vs :=
  ⟨h.vl, h.row.kept hg (.inr fun e => hm.ne_row h.row e.symm), fun j v p hv hp => ⟨(h.own j v p hv hp).1.kept hg (.inr fun e => hm.ne_row (h.own j v p hv hp).1 e.symm), (h.own j v p hv hp).2.kept hg (.inr fun e => hm.ne_row (h.own j v p hv hp).2 e.symm)⟩⟩
end
/-- The key of a state: its registers as bytes. -/
def keyK (r : List Int) : List UInt8 := r.map fun x => UInt8.ofNat x.toNat
theorem keyK_inj : ∀ {a b : List Int}, (∀ x ∈ a, x = 0 ∨ x = 1) → (∀ x ∈ b, x = 0 ∨ x = 1) → keyK a = keyK b → a = b
  | [], [], _, _, _ => rfl
  | [], _ :: _, _, _, h => by simp [keyK] at h
  | _ :: _, [], _, _, h => by simp [keyK] at h
  | x :: a, y :: b, ha, hb, h => by
    simp only [keyK, List.map_cons, List.cons.injEq] at h
    have ih := keyK_inj (fun z hz => ha z (by simp [hz])) (fun z hz => hb z (by simp [hz])) h.2
    have h0 := h.1
    subst ih
    congr 1
    rcases ha x (by simp) with rfl | rfl <;> rcases hb y (by simp) with rfl | rfl <;> first | rfl | (revert h0; decide)
/-- The map of the places: 1 where a place is, else 0. -/
def SeenOf (ps : List Place) (f : List UInt8 → Int) : Prop := ∀ r : List Int, (∀ x ∈ r, x = 0 ∨ x = 1) → f (keyK r) = if seenM ps r then 1 else 0
theorem SeenOf.start : SeenOf [] (fun _ => 0) := fun r _ => by simp [seenM]
theorem SeenOf.add {ps : List Place} {f : List UInt8 → Int} (h : SeenOf ps f) {p : Place} (hp : ∀ x ∈ p.1, x = 0 ∨ x = 1) : SeenOf (ps ++ [p]) (fun j => if j = keyK p.1 then 1 else f j) := by
  intro r hr
  by_cases e : p.1 = r
  · subst e
    have hs : seenM (ps ++ [p]) p.1 = true := by unfold seenM; rw [List.any_append]; simp
    show (if keyK p.1 = keyK p.1 then (1 : Int) else f (keyK p.1)) = _
    rw [if_pos rfl, hs]; rfl
  · have hk : ¬ keyK r = keyK p.1 := fun q => e (keyK_inj hr hp q).symm
    show (if keyK r = keyK p.1 then (1 : Int) else f (keyK r)) = _
    have hs : seenM (ps ++ [p]) r = seenM ps r := by unfold seenM; rw [List.any_append]; simp [e]
    rw [if_neg hk, h r hr, hs]
end Go.Proofs.Ytjagbnaacfhokaa
/- The rule of Flow for regions whose first operation (the base of what is stored last) is free beside the rest. -/
namespace Go.Proofs.Ytjagbnaacfhokaa
set_option linter.unusedVariables false
set_option linter.unusedSimpArgs false
open Go.RowKit

/-- Each operation behind the first m waits for all of these but the very first. -/
def sufOK5 (ops : Array Oper) (m : Nat) : Bool := (List.range ops.size).all fun i => decide (i < m) || match ops[i]? with | some o => (List.range m).all (fun j => decide (j = 0) || needsOp ops 40 j o) | none => true
/-- All of the first m are listed but the very first. -/
def preZ (m n : Nat) : Array Bool := (preL m n).setIfInBounds 0 false
theorem preZ_get (m n j : Nat) (hj : j ≠ 0) : (preZ m n).getD j false = (preL m n).getD j false := by
  unfold preZ
  rw [Array.getD_eq_getD_getElem?, Array.getElem?_setIfInBounds_ne (fun e => hj e.symm), ← Array.getD_eq_getD_getElem?]
theorem preL_get (m n j : Nat) (hj : j < m) : (preL m n).getD j false = true := by
  rw [Array.getD_eq_getD_getElem?]
  simp [preL, List.getElem?_append, hj]
theorem wpAny_inv_pre5 {P : Program} {ops : Array Oper} {Q : Exit → Act → World → Prop} {m n : Nat} (hm0 : 0 < m) (hsz : ops.size = m + n) (hsuf : sufOK5 ops m = true) (I : Array Bool → Act → World → Prop) (hcl : ∀ listed a w, I listed a w → Closed ops listed)
    (step : ∀ listed a w i, listed.size = ops.size → I listed a w → i < m → i ∈ Region.ready .any ops listed → wpOp P ops Q i (I (listed.setIfInBounds i true)) a w)
    (ready : ∀ listed a w, listed.size = ops.size → I listed a w → Region.ready .any ops listed = [] → ∀ j : Nat, j < m → listed.getD j false = true)
    (rest : ∀ a w, I (preL m n) a w → wpAny P .any ops Q n (preL m n) a w)
    (restZ : ∀ a w, I (preZ m n) a w → wpAny P .any ops Q (n + 1) (preZ m n) a w) :
    ∀ (k : Nat) (listed : Array Bool) (a : Act) (w : World), listed.size = ops.size → listed.toList.count false = n + k → (∀ j : Nat, m ≤ j → listed.getD j false = false) → I listed a w → wpAny P .any ops Q (n + k) listed a w
  | 0, listed, a, w, hs, hc, h2, hI => by
    have := listed_pre (m := m) (n := n) (by omega) (count_true_pre (m := m) (n := n) (by omega) (by omega) h2) h2
    subst this
    exact rest a w hI
  | k + 1, listed, a, w, hs, hc, h2, hI => by
    have hnot : ¬ ∀ j : Nat, j < m → listed.getD j false = true := by
      intro h
      have e := listed_pre (m := m) (n := n) (by omega) h h2
      rw [e] at hc
      simp [preL, List.count_append, List.count_replicate] at hc
    by_cases hall : ∀ j : Nat, 0 < j → j < m → listed.getD j false = true
    · have h0 : listed.getD 0 false = false := by
        cases h0 : listed.getD 0 false with
        | false => rfl
        | true =>
          exact absurd (fun j hj => by
            rcases Nat.eq_zero_or_pos j with e | e
            · subst e; exact h0
            · exact hall j e hj) hnot
      have hl1 : listed.setIfInBounds 0 true = preL m n := listed_pre (by simpa using (by omega : listed.size = m + n)) (fun j hj => by
          rcases Nat.eq_zero_or_pos j with e | e
          · subst e
            rw [Array.getD_eq_getD_getElem?, Array.getElem?_setIfInBounds_self_of_lt (by omega)]; rfl
          · rw [getD_set_ne false (by omega)]; exact hall j e hj) (fun j hj => by rw [getD_set_ne false (by omega)]; exact h2 j hj)
      have hl2 : listed = preZ m n := by
        unfold preZ
        rw [← hl1]
        refine Array.ext_getElem? fun j => ?_
        by_cases e : 0 = j
        · subst e
          rw [Array.getElem?_setIfInBounds_self_of_lt (by simp; omega)]
          have hlt : 0 < listed.size := by omega
          simp only [Array.getD, hlt, dif_pos] at h0
          rw [Array.getElem?_eq_getElem hlt]; exact congrArg some h0
        · rw [Array.getElem?_setIfInBounds_ne e, Array.getElem?_setIfInBounds_ne e]
      have hk : k = 0 := by
        have hlt : 0 < listed.size := by omega
        have hx : listed.toList[0]'(by simpa using hlt) = false := by
          simp only [Array.getD, hlt, dif_pos] at h0
          simpa using h0
        have hcs := List.count_set (a := true) (b := false) (l := listed.toList) (i := 0) (by simpa using hlt)
        rw [← Array.toList_setIfInBounds, hl1, hx] at hcs
        have e1 : (if (false == false) = true then 1 else 0) = 1 := rfl
        have e2 : (if (true == false) = true then 1 else 0) = 0 := rfl
        rw [e1, e2] at hcs
        have : (preL m n).toList.count false = n := by simp [preL, List.count_append, List.count_replicate]
        omega
      subst hk
      rw [hl2]
      rw [hl2] at hI
      exact restZ a w hI
    show wpAny P .any ops Q ((n + k) + 1) listed a w
    refine ⟨fun hr => absurd (ready listed a w hs hI hr) hnot, fun i hi => ?_⟩
    have hi2 := hi
    have him : i < m := by
      rcases Nat.lt_or_ge i m with q | q
      · exact q
      · exfalso; apply hall
        obtain ⟨o, ho, hdep⟩ := ready_of hi
        have h3 := List.all_eq_true.1 hsuf i (List.mem_range.2 (Array.getElem?_eq_some_iff.1 ho).1)
        rw [ho] at h3
        simp only [Bool.or_eq_true, decide_eq_true_eq] at h3
        rcases h3 with h3 | h3
        · omega
        · intro j hj0 hj
          have h4 := List.all_eq_true.1 h3 j (List.mem_range.2 hj)
          rw [Bool.or_eq_true, decide_eq_true_eq] at h4
          exact needsOp_spec (hcl listed a w hI) _ o (h4.resolve_left (by omega)) hdep
    refine wpOp_mono (fun a' w' h => wpAny_inv_pre5 hm0 hsz hsuf I hcl step ready rest restZ k _ a' w' (by simpa using hs) ?_ ?_ h) (step listed a w i hs hI him hi)
    · have hm : i < ops.size ∧ listed.getD i true = false := by
        unfold Region.ready at hi2
        obtain ⟨g1, g2⟩ := List.mem_filter.1 hi2
        refine ⟨List.mem_range.1 g1, ?_⟩
        simp only [Bool.and_eq_true, Bool.not_eq_true'] at g2
        exact g2.1
      obtain ⟨g1, g2⟩ := hm
      have hlt : i < listed.size := by omega
      have hx : listed.toList[i]'(by simpa using hlt) = false := by simpa [Array.getD, hlt] using g2
      have := List.count_set (a := true) (b := false) (l := listed.toList) (i := i) (by simpa using hlt)
      simp only [Array.toList_setIfInBounds]
      have hpos : 0 < listed.toList.count false := List.count_pos_iff.2 (by rw [← hx]; exact List.getElem_mem _)
      rw [this, hx]
      have e1 : (if (false == false) = true then 1 else 0) = 1 := rfl
      have e2 : (if (true == false) = true then 1 else 0) = 0 := rfl
      rw [e1, e2]; omega
    · intro j hj
      rw [getD_set_ne false (by omega)]; exact h2 j hj
/-- THE RULE, where the very first operation is free beside all behind the front: the rest from two states. -/
theorem wp_flow5 {P : Program} {o0 : Oper} {l : List Oper} {Q : Exit → Act → World → Prop} {id : Nat} {a0 : Act} {W0 : World} (m n : Nat) (F0 : Fact) (Fs : List Fact) (hm : P.follows .mixedOrders = true) (hln : l.length = m + n) (hfl : Fs.length = m)
    (hok : flowOK ((o0 :: l).take (m + 1)).toArray a0.tmps.size = true) (hsuf : sufOK5 (o0 :: l).toArray (m + 1) = true)
    (mono : factsMono (F0 :: Fs)) (each : AllFrom (StepOK3 P (o0 :: l).toArray (m + 1) Q W0 a0 (facts (F0 :: Fs))) 0 ((o0 :: l).take (m + 1)))
    (rest : ∀ w, Ext W0 w → ForFacts (F0 :: Fs) w (fun vs => wpAny P .any (o0 :: l).toArray Q n (preL (m + 1) n) (putAll a0 ((o0 :: l).take (m + 1)) vs) w))
    (restZ : ∀ w, Ext W0 w → ForFacts Fs w (fun vs => wpAny P .any (o0 :: l).toArray Q (n + 1) (preZ (m + 1) n) (putAll a0 (l.take m) vs) w)) : (Code.region id (o0 :: l).toArray true).wp P Q a0 W0 := by
  have hsz : (o0 :: l).toArray.size = (m + 1) + n := by simp; omega
  have hlt : ((o0 :: l).take (m + 1)).length = m + 1 := by simp; omega
  have hpo : ∀ i o, i < m + 1 → (o0 :: l).toArray[i]? = some o → ((o0 :: l).take (m + 1)).toArray[i]? = some o := fun i o hi ho => by
    rw [List.getElem?_toArray, List.getElem?_take_of_lt hi]; simpa using ho
  have hdep : ∀ i o e, i < m + 1 → (o0 :: l).toArray[i]? = some o → e ∈ o.after.toList → Region.binds .any e = true → e.on < i := fun i o e hi ho he hbd => by
    obtain ⟨d, -, -, -, h4⟩ := flow_dst hok (hpo i o hi ho)
    exact h4 e he hbd
  refine wp_region_any hm ?_
  have key := wpAny_inv_pre5 (P := P) (Q := Q) (Nat.succ_pos m) hsz hsuf (fun listed a w => (listed.size = (m + 1) + n ∧ Closed (o0 :: l).toArray listed ∧ (listed.getD 0 false = false → ∀ d, o0.dst = some d → a.tmps[d]? = a0.tmps[d]?)) ∧ Flow W0 a0 ((o0 :: l).take (m + 1)).toArray (facts (F0 :: Fs)) (listed.extract 0 (m + 1)) a w) (fun listed a w h => h.1.2.1) ?_ ?_ ?_ ?_ (m + 1) (Array.replicate (o0 :: l).toArray.size false) a0 { W0 with drawn := W0.drawn + 1 } (by simp) ?_ ?_ ?_
  · rw [Nat.add_comm] at key; rw [← hsz] at key; exact key
  · rintro listed a w i hs ⟨⟨hI0, hC, hZ⟩, hI⟩ him hi
    obtain ⟨o, ho, hd⟩ := ready_of hi
    have ho' := hpo i o him ho
    have hl : ((o0 :: l).take (m + 1))[i]? = some o := by simpa using ho'
    have hst := each.at_ i o hl
    rw [Nat.zero_add] at hst
    have hext : ∀ j : Nat, j < m + 1 → (listed.extract 0 (m + 1)).getD j false = listed.getD j false := fun j hj => by
      rw [Array.getD_eq_getD_getElem?, Array.getD_eq_getD_getElem?, Array.getElem?_extract, if_pos (by omega), Nat.zero_add]
    have hset : (listed.setIfInBounds i true).extract 0 (m + 1) = (listed.extract 0 (m + 1)).setIfInBounds i true := by
      refine Array.ext_getElem? fun j => ?_
      rw [Array.getElem?_extract]
      by_cases hj : j < m + 1
      · rw [if_pos (by simp; omega), Nat.zero_add]
        by_cases e : i = j
        · subst e
          rw [Array.getElem?_setIfInBounds_self_of_lt (by omega), Array.getElem?_setIfInBounds_self_of_lt (by simp; omega)]
        · rw [Array.getElem?_setIfInBounds_ne e, Array.getElem?_setIfInBounds_ne e, Array.getElem?_extract, if_pos (by omega), Nat.zero_add]
      · rw [if_neg (by omega), Array.getElem?_eq_none (by simp; omega)]
    have hZ' : ∀ v, (listed.setIfInBounds i true).getD 0 false = false → ∀ d, o0.dst = some d → (a.put o.dst v).tmps[d]? = a0.tmps[d]? := fun v h0 d hd0 => by
      have hi0 : i ≠ 0 := by
        rintro rfl
        rw [Array.getD_eq_getD_getElem?, Array.getElem?_setIfInBounds_self_of_lt (by omega)] at h0
        cases h0
      rw [getD_set_ne false (by omega)] at h0
      obtain ⟨d', h1, -, h3, -⟩ := flow_dst hok ho'
      have hne := h3 0 o0 (by omega) (by simp)
      rw [h1]
      have : d' ≠ d := fun e => hne (by rw [hd0, e])
      simp only [Act.put]
      rw [Array.getElem?_setIfInBounds_ne this]
      exact hZ h0 d hd0
    rcases hst a w hI.ext (fun i' d hw hd' => by
        obtain ⟨o', h1, h2⟩ := dstIs_spec hd'
        have hi' : i' < i := by
          obtain ⟨e, he, h2⟩ := Array.any_eq_true'.1 hw
          simp only [Bool.and_eq_true, beq_iff_eq] at h2
          rw [← h2.1]; exact hdep i o e him ho (by simpa using he) h2.2
        refine hI.slot i' o' d ?_ (hpo i' o' (by omega) h1) h2
        rw [hext i' (by omega)]; exact waitsFor_spec hw hd) (fun s h => hI.base s (freeSlot_spec h)) with ⟨h1, h2⟩ | ⟨h1, h2⟩
    · refine wpOp_step' ho h1 (h2 _ fun v w' hv hx => ⟨⟨by simpa using hI0, hC.set hs hi, hZ' v⟩, ?_⟩)
      rw [hset]
      exact hI.put hok (facts_mono mono) (by simp; omega) ho' hv hx
    · refine wpOp_skip' ho h1 ⟨⟨by simpa using hI0, hC.set hs hi, hZ' undef⟩, ?_⟩
      rw [hset]
      exact hI.put hok (facts_mono mono) (by simp; omega) ho' h2 (Ext.refl _)
  · rintro listed a w hs ⟨⟨hI0, -, -⟩, hI⟩ hr
    have : ∀ (k j : Nat), j < k → j < m + 1 → listed.getD j false = true := by
      intro k
      induction k with
      | zero => intro j h; omega
      | succ k ih =>
        intro j h1 h2
        by_cases hl : listed.getD j false = true
        · exact hl
        · exfalso
          have hj : (o0 :: l).toArray[j]? = some (o0 :: l).toArray[j] := Array.getElem?_eq_getElem (by omega)
          have hmem : j ∈ Region.ready .any (o0 :: l).toArray listed := by
            unfold Region.ready
            refine List.mem_filter.2 ⟨List.mem_range.2 (by omega), ?_⟩
            rw [hj]
            simp only [Bool.and_eq_true, Option.map_some, Option.getD_some]
            refine ⟨?_, Array.all_eq_true'.2 fun e he => ?_⟩
            · have h2' : j < listed.size := by omega
              simp only [Array.getD, h2', dif_pos] at hl ⊢
              simpa using hl
            · cases hbd : Region.binds .any e with
              | false => rfl
              | true =>
                have he' := hdep j _ e h2 hj (by simpa using he) hbd
                rw [ih e.on (by omega) (by omega)]; rfl
          rw [hr] at hmem; cases hmem
    exact fun j hj => this (j + 1) j (Nat.lt_succ_self j) hj
  · rintro a w ⟨-, hI⟩
    have hx := rest w hI.ext
    obtain ⟨vs, g1, g2, g3⟩ := forFacts_get (a := a) (os := (o0 :: l).take (m + 1)) (by rw [List.length_cons, hfl, hlt]) hx (fun j o hj => by
      obtain ⟨d, h1, h2, -, -⟩ := flow_dst hok (by simpa using hj)
      have hjm : j < m + 1 := by have := (List.getElem?_eq_some_iff.1 hj).1; omega
      obtain ⟨v, k1, k2⟩ := hI.slot j o d (by
        rw [Array.getD_eq_getD_getElem?, Array.getElem?_extract]
        rw [if_pos (by simp [preL]; omega)]
        simp [preL, List.getElem?_append, hjm]) (by simpa using hj) h1
      exact ⟨d, v, h1, k1, k2⟩)
    have ha : a = putAll a0 ((o0 :: l).take (m + 1)) vs := eq_putAll g1 hI.size hI.defers (fun s hs => hI.base s (fun j o ho => hs o (by
        have : ((o0 :: l).take (m + 1))[j]? = some o := by simpa using ho
        exact List.mem_of_getElem? this))) (fun j o d hj hd => by
      obtain ⟨d', h1, h2, -, -⟩ := flow_dst hok (j := j) (by simpa using hj)
      rw [hd] at h1; injection h1 with h1; subst h1
      exact ⟨h2, g3 j o d hj hd⟩)
    rw [ha]; exact g2
  · rintro a w ⟨⟨-, -, hZ⟩, hI⟩
    have hx := restZ w hI.ext
    have htk : (o0 :: l).take (m + 1) = o0 :: l.take m := rfl
    have hat : ∀ (j : Nat) (o : Oper), (l.take m)[j]? = some o → ((o0 :: l).take (m + 1)).toArray[j + 1]? = some o := fun j o hj => by
      rw [List.getElem?_toArray, htk, List.getElem?_cons_succ]; exact hj
    obtain ⟨vs, g1, g2, g3⟩ := forFacts_get (a := a) (os := l.take m) (by rw [hfl]; simp; omega) hx (fun j o hj => by
      obtain ⟨d, h1, h2, -, -⟩ := flow_dst hok (hat j o hj)
      have hjm : j < m := by have := (List.getElem?_eq_some_iff.1 hj).1; simp at this; omega
      obtain ⟨v, k1, k2⟩ := hI.slot (j + 1) o d (by
        rw [Array.getD_eq_getD_getElem?, Array.getElem?_extract, if_pos (by simp [preZ, preL]; omega), Nat.zero_add, ← Array.getD_eq_getD_getElem?, preZ_get _ _ _ (by omega)]
        exact preL_get _ _ _ (by omega)) (hat j o hj) h1
      exact ⟨d, v, h1, k1, k2⟩)
    have ha : a = putAll a0 (l.take m) vs := eq_putAll g1 hI.size hI.defers (fun s hs => ?_) (fun j o d hj hd => by
      obtain ⟨d', h1, h2, -, -⟩ := flow_dst hok (hat j o hj)
      rw [hd] at h1; injection h1 with h1; subst h1
      exact ⟨h2, g3 j o d hj hd⟩)
    · rw [ha]; exact g2
    · by_cases e : o0.dst = some s
      · exact hZ (by simp [preZ, preL, Array.getD]) s e
      · exact hI.base s (fun j o ho => by
          rw [List.getElem?_toArray, htk] at ho
          cases j with
          | zero => simp only [List.getElem?_cons_zero, Option.some.injEq] at ho; subst ho; exact e
          | succ j => exact hs o (List.mem_of_getElem? (by simpa using ho)))
  · rw [Array.toList_replicate, List.count_replicate]; simp; omega
  · intro j hj
    rw [Array.getD_eq_getD_getElem?, Array.getElem?_replicate]
    split <;> rfl
  · exact ⟨⟨by simpa using hsz, (fun i o h => by
      rw [Array.getD_eq_getD_getElem?, Array.getElem?_replicate] at h
      split at h <;> cases h), fun _ d _ => rfl⟩, ⟨(Ext.refl W0).drew, rfl, rfl, fun s _ => rfl, fun j o d h _ _ => by
      rw [Array.getD_eq_getD_getElem?, Array.getElem?_extract] at h
      split at h
      · rw [Array.getElem?_replicate] at h; split at h <;> cases h
      · cases h⟩⟩
end Go.Proofs.Ytjagbnaacfhokaa
