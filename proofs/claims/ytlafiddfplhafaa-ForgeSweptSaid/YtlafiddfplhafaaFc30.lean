/- DropOf, by the reference. -/
import Derived.Test.YtlafiddfplhafaaFc29
import Derived.Test.YtlafiddfplhafaaFc13
import Derived.Test.YtlafiddfplhafaaFc02
import Derived.Lib.AppendZerosOnto
import Derived.Test.YtlafiddfplhafaaFc06
import Derived.Test.YtlafiddfplhafaaFc10
import Derived.Test.YtlafiddfplhafaaFc16
import Derived.Test.YtlafiddfplhafaaFc28
namespace Go.Proofs.Ytlafiddfplhafaa
set_option linter.unusedVariables false
set_option linter.unusedSimpArgs false
set_option linter.unusedVariables false
set_option linter.unusedSimpArgs false
open Go.RowKit
theorem keepGs_next {f : GateM → GateM} {gs : List GateM} {l : List Bool} {k : Nat} {g : GateM} {b : Bool} (hg : gs[k]? = some g) (hb : l[k]? = some b) :
    keepGs f (gs.take (k + 1)) (l.take (k + 1)) = keepGs f (gs.take k) (l.take k) ++ (if b then [f g] else []) := by
  induction gs generalizing l k with
  | nil => simp at hg
  | cons x gs ih =>
    cases l with
    | nil => simp at hb
    | cons y l =>
      cases k with
      | zero => simp at hg hb; subst hg; subst hb; simp [keepGs]
      | succ k =>
        have := ih (l := l) (k := k) (by simpa using hg) (by simpa using hb)
        simp only [List.take_succ_cons, keepGs, this]
        split <;> simp
theorem keepGs_take_len (f : GateM → GateM) {gs : List GateM} {l : List Bool} (h : gs.length = l.length) (k : Nat) : (keepGs f (gs.take k) (l.take k)).length = cnt (l.take k) := keepGs_len f _ _ (by simp [h])
section
variable (i : Int) (GA : Option Addr) (gn gc : Nat) (RA : Option Addr) (rn rc : Nat) (OA : Option Addr) (on oc : Nat) (N : NetM) (w : World)
end
end Go.Proofs.Ytlafiddfplhafaa
/- slices.Grow of nothing, slices.Concat. -/
namespace Go.Proofs.Ytlafiddfplhafaa
set_option linter.unusedVariables false
set_option linter.unusedSimpArgs false
open Go.RowKit
theorem wpList_appendZ {P : Program} {w : World} {ops : Array Oper} {rest : List Oper} {o : Oper} {a : Act} {Q : Exit → Act → World → Prop} (hgd : o.guard = none) (s x : Operand) (t tn e : TypeId)
    (ho : o.op = .call { callee := .builtin .append, args := #[s, x], argTypes := #[t, tn] })
    {z : Value} {bytes : Nat} (tab : (P.info? e).map (fun i => (i.zero, i.size, i.bytes)) = some (some z, 1, bytes)) (ht : P.underlying t = some (.slice e)) (htn : P.underlying tn = some (.int .i64)) (hzs : z.cells.size = 1)
    (hs : a.eval s = .slice none 0 0) (k : Nat) (hx : a.eval x = I k) (h0 : 0 < k) (hk : k ≤ maxLen) (hb : k * bytes ≤ 140737488355328)
    (h : ∀ c w', w'.ownsRow w.heap.size e 1 (.slice (some ⟨w.heap.size, 0, none⟩) 0 c) 0 [] → k ≤ c → c ≤ maxLen → Ext w w' → wpList P ops Q rest (a.put o.dst (.slice (some ⟨w.heap.size, 0, none⟩) k c)) w') : wpList P ops Q (o :: rest) a w := by
  obtain ⟨i, hi, hz, hs1, hs2⟩ := info_parts tab
  have hk9 : k ≤ 9223372036854775807 := by unfold maxLen at hk; omega
  have hr := Go.Lib.run_append_grow_zeros (P := P) w t tn o.type e i z .i64 .i64 ht htn hi hz none 0 0 [] (by simp [Builtin.firstCells, loadCells, loadCellsFrom]) k h0 (by omega) (by omega) (by omega) (by rw [hs2]; omega) (by rw [hs2, Nat.zero_add]; exact growslice_fits h0 hb)
  simp only [Nat.zero_add] at hr
  have hge := grownCap_ge w k 0 e
  have hcm := grownCap_le_maxLen w k 0 e hk
  refine wpList_plain hgd fun K hK => ?_
  unfold Oper.wp execOp
  simp only [ho, resolve, invoke, builtin, Sem.run_bind, Sem.run_pure, Result.andThen_ok, List.map_toArray, List.map_cons, List.map_nil, hs, hx, hr]
  refine hK _ _ (h _ _ ⟨rfl, .inr ⟨w.heap.size, _, _, rfl, Nat.le_refl _, heap_alloc_new w.drew _, Nat.zero_le _, hcm, ?_, by simp⟩⟩ hge hcm (((Ext.refl w).drew).alloc _))
  simp only [Array.size_append, List.size_toArray, size_zeroCells, hzs, List.length_nil]
  omega
set_option maxHeartbeats 1000000 in
theorem grow_any (n : Nat) (w : World) (hn : n ≤ 1000) :
    Calls Try.prog 88 #[.slice none 0 0, I n] w fun e w' => ∃ v, e = .returned v ∧ w'.ownsRow w.heap.size 3 1 v 0 [] ∧ Ext w w' := by
  by_cases h0 : n = 0
  · subst h0
    go_enter Try.func88, Try.ntmps88
    go_wp2
    go_ret
    exact ⟨_, rfl, World.ownsRow_nil _ _ _ _, Ext.refl _⟩
  · have hp : 0 < n := by omega
    clear h0
    go_enter Try.func88, Try.ntmps88
    go_upto_region 5 with fail
    go_wp2_with (refine wpList_appendZ rfl (.tmp 20) (.tmp 21) 23 3 3 rfl tab_int' Try.underlying23 Try.underlying3 rfl rfl n rfl hp (by unfold maxLen; omega) (by omega) ?_; intro cap w2 hown2 hc1 hc2 hx2)
    go_ret
    exact ⟨_, rfl, hown2, hx2⟩
theorem flatten_take_le (rows : List (List Int)) (k : Nat) : (rows.take k).flatten.length ≤ rows.flatten.length := by
  have h : rows.flatten = (rows.take k).flatten ++ (rows.drop k).flatten := by rw [← List.flatten_append, List.take_append_drop]
  rw [h, List.length_append]; omega
theorem flatten_next {rows : List (List Int)} {k : Nat} {r : List Int} (h : rows[k]? = some r) : (rows.take (k + 1)).flatten = (rows.take k).flatten ++ r := by
  rw [List.take_add_one, h]; simp
def flen (rows : List (List Int)) (k : Nat) : Nat := (rows.take k).flatten.length
set_option maxRecDepth 100000 in
set_option maxHeartbeats 2000000 in
theorem concat_any (A : Option Addr) (n c : Nat) (rows : List (List Int)) (w : World) (h : SlRows w A n rows) (hb : rows.flatten.length ≤ 1000) (hn : n ≤ 1000) :
    Calls Try.prog 58 #[.slice A n c] w fun e w' => ∃ v, e = .returned v ∧ w'.ownsRow w.heap.size 3 1 v rows.flatten.length (rows.flatten.map I) ∧ Ext w w' := by
  have H := Lib.hid h; have HB := Lib.hid hb; clear h hb
  go_enter Try.func58, Try.ntmps58
  go_wp2
  go_loop [3, 11] (fun s j => ∃ (k : Nat), k ≤ n ∧ j = .int .i64 k ∧ s = .int .i64 (flen rows k : Nat)) (fun _ j => n - (intOf j).toNat)
  case atStart => exact ⟨0, Nat.zero_le _, rfl, rfl⟩
  case round =>
    obtain ⟨k, hk, rfl, rfl⟩ := hrel
    by_cases hlt : k < n
    · obtain ⟨r, hr⟩ : ∃ r, rows[k]? = some r := ⟨_, List.getElem?_eq_getElem (by rw [H.out.1]; exact hlt)⟩
      obtain ⟨b, off, A', c', rfl, hc, -, -, -⟩ := H.out.2 k r hr
      have h1 := flatten_take_le rows (k + 1)
      rw [flatten_next hr, List.length_append] at h1
      have h2 := HB.out
      have hnx : flen rows (k + 1) = flen rows k + r.length := by unfold flen; rw [flatten_next hr, List.length_append]
      have hw : IntKind.i64.wrap ((flen rows k : Int) + (r.length : Int)) = (flen rows k : Int) + (r.length : Int) := IntWalk.i64_in _ (by unfold flen; omega)
      have HN := Lib.hid hnx
      have hS : (0 : Int) ≤ (flen rows k : Int) := Int.natCast_nonneg _
      clear hr h1 h2 hnx
      generalize flen rows k = S at *
      go_wp2
      go_round
      case rel => exact ⟨k + 1, by omega, by go_num, by rw [HN.out, Int.natCast_add]⟩
      case measure => simp [intOf]; omega
    · obtain rfl : n = k := by omega
      have ht : rows.take n = rows := List.take_of_length_le (by rw [H.out.1]; exact Nat.le_refl _)
      have hS : flen rows n ≤ 1000 := by unfold flen; rw [ht]; exact HB.out
      have HT := Lib.hid ht
      clear ht
      generalize hSS : flen rows n = S at *
      clear hSS
      go_wp2_with fail
      refine (grow_any S w hS).mono ?_; rintro e w1 ⟨v, rfl, hown, x1⟩
      have HO := Lib.hid hown; have X1 := Lib.hid x1; clear hown x1
      go_wp2_with fail
      go_loopw [6, 27] (fun s j wr => ∃ (k : Nat), k ≤ n ∧ j = .int .i64 k ∧ Ext w wr ∧ wr.ownsRow w.heap.size 3 1 s (rows.take k).flatten.length ((rows.take k).flatten.map I)) (fun _ j _ => n - (intOf j).toNat)
      case atStart => exact ⟨0, Nat.zero_le _, rfl, X1.out, HO.out⟩
      case round =>
        obtain ⟨k, hk, rfl, hext, hown⟩ := hrel
        by_cases hlt : k < n
        · obtain ⟨r, hr⟩ : ∃ r, rows[k]? = some r := ⟨_, List.getElem?_eq_getElem (by rw [H.out.1]; exact hlt)⟩
          obtain ⟨b, off, A', c', rfl, hc0, hs, -, -⟩ := H.out.2 k r hr
          have hc := hext.keeps _ _ hc0
          have h1 := flatten_take_le rows (k + 1)
          have hnx := flatten_next hr
          rw [hnx, List.length_append] at h1
          have HN := Lib.hid hnx; have HS := Lib.hid (hs.keep hext.keeps); have HO2 := Lib.hid hown; have H1 := Lib.hid h1
          clear hr hnx hc0 hs hown h1
          go_wp2_with (at_builtin; refine wpList_appendBig rfl (.tmp 31) (.tmp 32) 23 3 rfl tab_int' Try.underlying23 rfl (by omega) w hext _ _ _ rfl HO2.out A' r.length c' (r.map I) rfl HS.out (ints_one _) (by have := H1.out; have := HB.out; omega) (by have := H1.out; have := HB.out; omega) ?_; intro v2 w2 hown2 hx2 hg2 hb2)
          go_roundw
          case rel => exact ⟨k + 1, by omega, by go_num, hx2, by rw [HN.out, List.length_append, List.map_append]; exact hown2⟩
          case measure => simp [intOf]; omega
        · obtain rfl : n = k := by omega
          have ht : rows.take n = rows := List.take_of_length_le (by rw [H.out.1]; exact Nat.le_refl _)
          rw [ht] at hown
          have HO2 := Lib.hid hown
          clear hown ht
          go_wp2
          go_ret
          exact ⟨_, rfl, HO2.out, hext⟩
end Go.Proofs.Ytlafiddfplhafaa
/- Drop, by the program. -/
namespace Go.Proofs.Ytlafiddfplhafaa
set_option linter.unusedVariables false
set_option linter.unusedSimpArgs false
open Go.RowKit
theorem rows_two {w : World} {b : Nat} {A B : Option Addr} {n m c d : Nat} {xs ys : List Int} (hb : Box w b 23 [.slice A n c, .slice B m d]) (hA : Sl w A n (xs.map I)) (hB : Sl w B m (ys.map I)) (h1 : n ≤ c ∧ c ≤ maxLen) (h2 : m ≤ d ∧ d ≤ maxLen) : SlRows w (some ⟨b, 0, none⟩) 2 [xs, ys] := by
 have e1 := hA.len; have e2 := hB.len
 subst e1; subst e2
 refine ⟨rfl, fun k r hr => ?_⟩
 match k, hr with
 | 0, hr => simp at hr; subst hr; exact ⟨b, 0, A, c, rfl, hb.cell 0, hA, h1.1, h1.2⟩
 | 1, hr => simp at hr; subst hr; exact ⟨b, 0, B, d, rfl, hb.cell 1, hB, h2.1, h2.2⟩
 | k + 2, hr => simp at hr
section
variable (i : Int) (GA : Option Addr) (gn gc : Nat) (RA : Option Addr) (rn rc : Nat) (OA : Option Addr) (on oc : Nat) (N : NetM) (w : World)
set_option maxRecDepth 100000 in
set_option maxHeartbeats 16000000 in
theorem drop_any (h : NetC w i GA gn gc RA rn rc OA on oc N) :
  Calls Try.prog 21 #[netV i GA gn gc RA rn rc OA on oc] w fun e w' => NetRes w w' w.heap.size e (checkN N) (dropR N) := by
 have hgl : N.gates.length = gn := h.gates.1
 have hrl : N.regs.length = rn := h.regs.1
 have hol : N.outs.length = on := h.outs.len
 have hin := h.ins
 have hocm := h.ol
 obtain ⟨W0, hW0⟩ : ∃ W, W = w.alloc (.cells #[I i, .slice GA gn gc, .slice RA rn rc, .slice OA on oc] 39) := ⟨_, rfl⟩
 have hx0 : Ext w W0 := by rw [hW0]; exact (Ext.refl _).alloc _
 obtain ⟨W, hW⟩ : ∃ W, W = W0.alloc (.cells #[I 0, .slice none 0 0, .slice none 0 0, .slice none 0 0] 39) := ⟨_, rfl⟩
 have hx1 : Ext W0 W := by rw [hW]; exact (Ext.refl _).alloc _
 have hs0 : W0.heap.size = w.heap.size + 1 := by rw [hW0]; simp
 have hbox : NetBox W w.heap.size i GA gn gc RA rn rc OA on oc := by
  have : NetBox W0 w.heap.size i GA gn gc RA rn rc OA on oc := by rw [hW0]; exact NetBox.new w i GA gn gc RA rn rc OA on oc _
  exact this.keep hx1.keeps
 have hz : Box W (w.heap.size + 1) 39 [I 0, .slice none 0 0, .slice none 0 0, .slice none 0 0] := by rw [← hs0, hW]; exact Box.new W0 _ _
 have HN := Lib.hid (h.keep (hx0.trans hx1).keeps); have HBox := Lib.hid hbox; have HX := Lib.hid (hx0.trans hx1); have HZ := Lib.hid hz
 have HW : Hid (W = (w.alloc (.cells #[I i, .slice GA gn gc, .slice RA rn rc, .slice OA on oc] 39)).alloc (.cells #[I 0, .slice none 0 0, .slice none 0 0, .slice none 0 0] 39)) := by unfold Hid; rw [hW, hW0]
 clear h hW0 hx0 hW hx1 hs0 hbox hz
 by_cases hc : checkN N = 0
 ·have ok := checkN_ok hc
  have hDR : dropR N = dropN N := by unfold dropR; rw [if_pos hc]
  rw [hDR, hc]
  have hr20 : rn ≤ 20 := by have := ok.rl; omega
  have ho3 : on ≤ 3 := by have := ok.ol; omega
  have hg200 : gn ≤ 200 := by have := ok.gl; omega
  have hlk := keepGs_take_len id (gs := N.gates) (l := isM N) (is_len N).symm
  have hil : (isM N).length = gn := by rw [is_len, hgl]
  have HOK := Lib.hid ok; have HC := Lib.hid hc; have HGL := Lib.hid hgl; have HIN := Lib.hid hin; have HLK := Lib.hid hlk; have HIL := Lib.hid hil; have HRL := Lib.hid hrl; have HOL := Lib.hid hol; have HOCM := Lib.hid hocm
  clear ok hc hgl hrl hol hin hlk hil hDR hocm
  go_enter Try.func21, Try.ntmps21
  go_wp2_with fail
  rw [← HW.out]
  refine (netCheck_any i GA gn gc RA rn rc OA on oc N W HN.out).mono ?_; rintro e w1 ⟨rfl, x1⟩; rw [HC.out]
  have hbx := HBox.out.keep x1.keeps
  have B0 : Hid (w1.cell? ⟨w.heap.size, 0, none⟩ = some (I i)) := hbx.1
  have B1 : Hid (w1.cell? ⟨w.heap.size, 1, none⟩ = some (.slice GA gn gc)) := hbx.2.1
  have B2 : Hid (w1.cell? ⟨w.heap.size, 2, none⟩ = some (.slice RA rn rc)) := hbx.2.2.1
  have B3 : Hid (w1.cell? ⟨w.heap.size, 3, none⟩ = some (.slice OA on oc)) := hbx.2.2.2
  have NN := Lib.hid (HN.out.keep x1.keeps)
  have X1 := Lib.hid x1
  clear x1 hbx
  go_wp2_with fail
  refine wp_flow3 9 0 [isV (.agg #[I i, .slice GA gn gc, .slice RA rn rc, .slice OA on oc]), isV (.pointer (some ⟨w.heap.size, 3, none⟩)), isV (.slice OA on oc), isV (.agg #[I i, .slice GA gn gc, .slice RA rn rc, .slice OA on oc]), fun v w => ∃ A c, v = .slice A rn c ∧ w.ownsRow w1.heap.size 3 1 (.slice A rn c) rn ((nextsM N).map I), fun v w => ∃ b A c, v = .slice (some ⟨b, 0, none⟩) 2 2 ∧ Box w b 23 [.slice OA on oc, .slice A rn c] ∧ w.ownsRow w1.heap.size 3 1 (.slice A rn c) rn ((nextsM N).map I), fun v w => ∃ A c, v = .slice A (on + rn) c ∧ w.ownsRow w1.heap.size 3 1 (.slice A (on + rn) c) (on + rn) ((N.outs ++ nextsM N).map I), fun v w => ∃ A c, v = .slice A gn c ∧ w.ownsRow w1.heap.size 4 1 (.slice A gn c) gn ((isM N).map Bv), fun v w => ∃ A c, v = .slice A gn c ∧ w.ownsRow w1.heap.size 4 1 (.slice A gn c) gn ((isM N).map Bv)] (by kernel_rfl) rfl rfl (by kernel_rfl) (by kernel_rfl) ⟨isV_mono, isV_mono, isV_mono, isV_mono, fun v w w' ⟨A, c, e, h⟩ hx => ⟨A, c, e, own_ext h hx⟩, fun v w w' ⟨b, A, c, e, h, k⟩ hx => ⟨b, A, c, e, h.ext hx, own_ext k hx⟩, fun v w w' ⟨A, c, e, h⟩ hx => ⟨A, c, e, own_ext h hx⟩, fun v w w' ⟨A, c, e, h⟩ hx => ⟨A, c, e, own_ext h hx⟩, fun v w w' ⟨A, c, e, h⟩ hx => ⟨A, c, e, own_ext h hx⟩, trivial⟩ ?each ?rest
  case each =>
   refine .cons ?_ (.cons ?_ (.cons ?_ (.cons ?_ (.cons ?_ (.cons ?_ (.cons ?_ (.cons ?_ (.cons ?_ (.nil)))))))))
   ·intro fa fw hx hs hb
    have s1 : fa.tmps[(1 : Nat)]? = some (.pointer (some ⟨w.heap.size, 0, none⟩)) := (hb 1 (by kernel_rfl)).trans (by rfl)
    have c0 := hx.keeps _ _ B0.out
    have c1 := hx.keeps _ _ B1.out
    have c2 := hx.keeps _ _ B2.out
    have c3 := hx.keeps _ _ B3.out
    refine .inl ⟨wanted_free rfl, fun K hK => ?_⟩
    clear hs hb hx
    go_simp
    exact hK _ _ rfl (Ext.refl _)
   ·intro fa fw hx hs hb
    have s1 : fa.tmps[(1 : Nat)]? = some (.pointer (some ⟨w.heap.size, 0, none⟩)) := (hb 1 (by kernel_rfl)).trans (by rfl)
    refine .inl ⟨wanted_free rfl, fun K hK => ?_⟩
    clear hs hb hx
    go_simp
    exact hK _ _ rfl (Ext.refl _)
   ·intro fa fw hx hs hb
    obtain ⟨_, s23, rfl⟩ := hs 1 23 (by kernel_rfl) (by kernel_rfl)
    have c0 := hx.keeps _ _ B3.out
    refine .inl ⟨wanted_free rfl, fun K hK => ?_⟩
    clear hs hb hx
    go_simp
    exact hK _ _ rfl (Ext.refl _)
   ·intro fa fw hx hs hb
    have s1 : fa.tmps[(1 : Nat)]? = some (.pointer (some ⟨w.heap.size, 0, none⟩)) := (hb 1 (by kernel_rfl)).trans (by rfl)
    have c0 := hx.keeps _ _ B0.out
    have c1 := hx.keeps _ _ B1.out
    have c2 := hx.keeps _ _ B2.out
    have c3 := hx.keeps _ _ B3.out
    refine .inl ⟨wanted_free rfl, fun K hK => ?_⟩
    clear hs hb hx
    go_simp
    exact hK _ _ rfl (Ext.refl _)
   ·intro fa fw hx hs hb
    obtain ⟨_, s25, rfl⟩ := hs 3 25 (by kernel_rfl) (by kernel_rfl)
    refine .inl ⟨wanted_free rfl, fun K hK => ?_⟩
    clear hs hb
    go_simp
    refine (nexts_any i GA gn gc RA rn rc OA on oc N fw (NN.out.keep hx.keeps) hr20).mono ?_
    rintro e w' ⟨r0, rfl, ho, xq⟩
    obtain ⟨Aq, cq, rfl, -, -, -⟩ := own_sl ho
    exact hK _ _ ⟨Aq, cq, rfl, own_base ho hx.size⟩ xq
   ·intro fa fw hx hs hb
    obtain ⟨_, s24, rfl⟩ := hs 2 24 (by kernel_rfl) (by kernel_rfl)
    obtain ⟨_, s26, A26, c26, rfl, q26⟩ := hs 4 26 (by kernel_rfl) (by kernel_rfl)
    refine .inl ⟨wanted_free rfl, fun K hK => ?_⟩
    clear hs hb
    go_simp
    exact hK _ _ ⟨fw.heap.size, A26, c26, rfl, Box.new fw _ _, own_ext q26 ((Ext.refl fw).alloc _)⟩ ((Ext.refl _).alloc _)
   ·intro fa fw hx hs hb
    obtain ⟨_, s27, b27, A27, c27, rfl, k27, q27⟩ := hs 5 27 (by kernel_rfl) (by kernel_rfl)
    refine .inl ⟨wanted_free rfl, fun K hK => ?_⟩
    clear hs hb
    obtain ⟨Ar, cr, er, h1, h2, hsr⟩ := own_sl q27
    injection er with er _ ec
    subst er; subst ec
    have hrows := rows_two k27 (NN.out.outs.keep hx.keeps) hsr HOCM.out ⟨h1, h2⟩
    have hfl : [N.outs, nextsM N].flatten.length = on + rn := by simp [HOL.out, nextsM, HRL.out]
    have hfe : [N.outs, nextsM N].flatten = N.outs ++ nextsM N := by simp
    clear h1 h2
    go_simp
    refine (concat_any _ 2 2 _ fw hrows (by rw [hfl]; omega) (by omega)).mono ?_
    rintro e w' ⟨r0, rfl, ho, xq⟩
    rw [hfl, hfe] at ho
    obtain ⟨Aq, cq, rfl, -, -, -⟩ := own_sl ho
    exact hK _ _ ⟨Aq, cq, rfl, own_base ho hx.size⟩ xq
   ·intro fa fw hx hs hb
    obtain ⟨_, s22, rfl⟩ := hs 0 22 (by kernel_rfl) (by kernel_rfl)
    obtain ⟨_, s28, A28, c28, rfl, q28⟩ := hs 6 28 (by kernel_rfl) (by kernel_rfl)
    refine .inl ⟨wanted_free rfl, fun K hK => ?_⟩
    clear hs hb
    obtain ⟨Ar, cr, er, h1, h2, hsr⟩ := own_sl q28
    injection er with er _ ec
    subst er; subst ec
    clear h1 h2
    go_simp
    refine (needed_any i GA gn gc RA rn rc OA on oc N _ (on + rn) _ (N.outs ++ nextsM N) fw (NN.out.keep hx.keeps) hsr HOK.out (wanted_in HOK.out) (by omega)).mono ?_
    rintro e w' ⟨r0, rfl, ho, xq⟩
    obtain ⟨Aq, cq, rfl, -, -, -⟩ := own_sl ho
    exact hK _ _ ⟨Aq, cq, rfl, own_base ho hx.size⟩ xq
   ·intro fa fw hx hs hb
    obtain ⟨_, s29, A29, c29, rfl, q29⟩ := hs 7 29 (by kernel_rfl) (by kernel_rfl)
    refine .inl ⟨wanted_free rfl, fun K hK => ?_⟩
    clear hs hb
    go_simp
    exact hK _ _ ⟨A29, c29, rfl, q29⟩ (Ext.refl _)
  case rest =>
   intro w2 hxw2
   rintro _ rfl
   rintro _ rfl
   rintro _ rfl
   rintro _ rfl
   rintro _ ⟨A26, c26, rfl, q26⟩
   rintro _ ⟨b27, A27, c27, rfl, k27, q27⟩
   rintro _ ⟨A28, c28, rfl, q28⟩
   rintro _ ⟨A29, c29, rfl, q29⟩
   rintro _ ⟨A5, c5, rfl, q5⟩
   simp only [putAll, List.take, Act.put, List.setIfInBounds_toArray, List.set_cons_zero, List.set_cons_succ]
   refine wpAny_done (by kernel_rfl) ?_ _
   obtain ⟨IA, ic, ei, -, -, his⟩ := own_sl q5
   injection ei with ei _ ec; subst ei; subst ec
   obtain ⟨wM, hwM⟩ : ∃ wM, wM = w2.alloc (.map #[] 0) := ⟨_, rfl⟩
   have hxM : Ext w2 wM := by rw [hwM]; exact (Ext.refl _).alloc _
   have hmM : MapI wM w2.heap.size 0 (fun _ => 0) := by rw [hwM]; exact MapI.made w2
   obtain ⟨wB, hwB⟩ : ∃ wB, wB = wM.alloc (.cells #[I 0, .slice none 0 0, .slice none 0 0, .slice none 0 0] 39) := ⟨_, rfl⟩
   have hxB : Ext wM wB := by rw [hwB]; exact (Ext.refl _).alloc _
   have hsM : wM.heap.size = w2.heap.size + 1 := by rw [hwM]; simp
   have hbB : Box wB (w2.heap.size + 1) 39 [I 0, .slice none 0 0, .slice none 0 0, .slice none 0 0] := by rw [← hsM, hwB]; exact Box.new wM _ _
   have HMB := Lib.hid (hmM.ext hxB); have HBB := Lib.hid hbB; have XB := Lib.hid (hxM.trans hxB)
   have HWB : Hid (wB = (w2.alloc (.map #[] 0)).alloc (.cells #[I 0, .slice none 0 0, .slice none 0 0, .slice none 0 0] 39)) := by unfold Hid; rw [hwB, hwM]
   have X12 := Lib.hid hxw2; have IS := Lib.hid his
   have N2 := Lib.hid (NN.out.keep hxw2.keeps)
   have D1 := Lib.hid (hxw2.keeps _ _ B1.out)
   have hb1 := XB.out.keeps _ _ D1.out
   obtain ⟨b7, hb7⟩ : ∃ b7, b7 = w2.heap.size + 1 := ⟨_, rfl⟩
   obtain ⟨mb, hmb⟩ : ∃ mb, mb = w2.heap.size := ⟨_, rfl⟩
   have HB7 := Lib.hid hb7; have HMBE := Lib.hid hmb
   clear hxw2 q5 q29 q28 q26 k27 q27 his hwM hxM hmM hwB hxB hsM hbB
   rw [← hb7] at HBB
   rw [← hmb] at HMB
   clear hb7 hmb
   have hmm := @run_makeMap Try.prog
   go_upto_region 7 with fail
   clear hmm
   rw [← HWB.out, ← HB7.out, ← HMBE.out]
   go_wp2_with fail
   clear hb1 HWB
   go_loopw [34] (fun j wr => ∃ (k : Nat) (A : Option Addr) (c : Nat) (vs : List Value) (mf : Int → Int), k ≤ gn ∧ j = .int .i64 k ∧ Ext w2 wr ∧ Box wr b7 39 [I 0, .slice A (cnt ((isM N).take k)) c, .slice none 0 0, .slice none 0 0] ∧ OwnG wr w2.heap.size (.slice A (cnt ((isM N).take k)) c) (keepGs id (N.gates.take k) ((isM N).take k)) vs ∧
    MapI wr mb (cnt ((isM N).take k)) mf ∧ MapTo N k mf) (fun j _ => gn - (intOf j).toNat)
   case atStart => exact ⟨0, none, 0, [], fun _ => 0, Nat.zero_le _, rfl, XB.out, HBB.out, OwnG.nil _ _, HMB.out, fun j hj => by omega⟩
   case round =>
    obtain ⟨k, A, c, vs, mf, hk, rfl, hext, hbx, hog, hmap, hto⟩ := hrel
    by_cases hlt : k < gn
    ·obtain ⟨b, off, A', m', c', g, rfl, c0, c1, c2, hsg, hmc, hcm, -, hg⟩ := (N2.out.keep hext.keeps).gates.next hlt
     obtain ⟨vb, vo, bk, rfl, hv0, hbk⟩ := IS.out.at_ hlt
     have hcn := cnt_next hbk
     have hkn := keepGs_next (f := id) hg hbk
     obtain ⟨wa, hwa⟩ : ∃ wa, wa = wr.alloc (.cells #[I g.kind, I g.num, .slice A' m' c'] 95) := ⟨_, rfl⟩
     have hxa : Ext wr wa := by rw [hwa]; exact (Ext.refl _).alloc _
     have hba : Box wa wr.heap.size 95 [I g.kind, I g.num, .slice A' m' c'] := by rw [hwa]; exact Box.new wr _ _
     have hcv := hxa.keeps _ _ (hext.keeps _ _ hv0)
     rw [hwa] at hcv
     cases bk with
     | false =>
      simp only [Bool.false_eq_true, if_false, Nat.add_zero, List.append_nil] at hcn hkn
      have HE := Lib.hid (hext.trans hxa); have HBX := Lib.hid (hbx.ext hxa); have HOG := Lib.hid (hog.ext hxa); have HMP := Lib.hid (hmap.ext hxa); have HTO := Lib.hid (hto.skip hbk); have HCN := Lib.hid hcn; have HKN := Lib.hid hkn; have HWA := Lib.hid hwa
      clear hext hbx hog hmap hto hcn hkn hbk hv0 hsg hmc hcm hg hwa hxa hba
      go_wp2
      rw [← HWA.out]
      go_roundw
      case rel => exact ⟨k + 1, A, c, vs, mf, by omega, by go_num, HE.out, by rw [HCN.out]; exact HBX.out, by rw [HCN.out, HKN.out]; exact HOG.out, by rw [HCN.out]; exact HMP.out, HTO.out⟩
      case measure => simp [intOf]; omega
     | true =>
      simp only [if_true] at hcn hkn
      have hml : m' ≤ 16 := by have := HOK.out.al g (List.mem_of_getElem? hg); have := hsg.len; omega
      have hgl : g.args.length = m' := hsg.len
      have hlen := HLK.out k
      have hc2 : cnt ((isM N).take k) ≤ 200 := by have := cnt_len ((isM N).take k); have := List.length_take_le k (isM N); omega
      obtain ⟨nk, hnk⟩ : ∃ nk, nk = cnt ((isM N).take k) := ⟨_, rfl⟩
      have hto' := hto.next
      rw [← hnk] at hbx hog hcn hlen hc2 hmap hto'
      have HBXA := Lib.hid (hbx.ext hxa); have HOGA := Lib.hid (hog.ext hxa); have HMPA := Lib.hid (hmap.ext hxa); have HXA := Lib.hid (hext.trans hxa); have HBA := Lib.hid hba
      have HSG := Lib.hid (hsg.keep hxa.keeps); have HLEN := Lib.hid hlen; have HGLA := Lib.hid hgl; have HKN := Lib.hid hkn; have HCN := Lib.hid hcn; have HTO := Lib.hid hto'; have HWA := Lib.hid hwa
      have m1 := (HBXA.out.cell 1).trans rfl
      simp only [List.getElem?_cons_zero, List.getElem?_cons_succ] at m1
      rw [hwa] at m1
      clear hext hbx hog hmap hto hto' hcn hkn hbk hv0 hsg hmc hcm hlen hg hwa hxa hba hgl hnk
      have W1 := Lib.hid (wf_small (a := (k : Int)) (by omega) (by omega)); have W2 := Lib.hid (wf_small (a := (nk : Int)) (by omega) (by omega))
      go_wp2_with (rw [← HWA.out]; refine wpList_updateI rfl (.tmp 43) (.tmp 44) (.tmp 47) rfl mb nk mf rfl HMPA.out (by unfold maxLen; omega) k nk rfl rfl W1.out W2.out ?_; intro wq hmq hgq)
      have hnb : some b7 ≠ some mb := by have := HMPA.out.ne_box HBXA.out; simpa using this
      have hbq := HBXA.out.kept hgq (fun e => hnb e.symm)
      have hnr : (Value.slice A nk c).ownBlock = none ∨ (Value.slice A nk c).ownBlock ≠ some mb := .inr (fun e => HMPA.out.ne_row HOGA.out.row e.symm)
      have hogq := HOGA.out.kept hgq hnr (fun v hv => .inr (fun e => by
       obtain ⟨j, hj⟩ := List.mem_iff_getElem?.1 hv
       have hj2 : j < (keepGs id (N.gates.take k) ((isM N).take k)).length := by have := HOGA.out.vl; have := (List.getElem?_eq_some_iff.1 hj).1; omega
       exact HMPA.out.ne_row (HOGA.out.own j v _ hj (List.getElem?_eq_getElem hj2)) e.symm))
      have hnb2 : some wr.heap.size ≠ some mb := by have := HMPA.out.ne_box HBA.out; simpa using this
      have hba2 := HBA.out.kept hgq (fun e => hnb2 e.symm)
      have hxq : Ext w2 wq := Below.grown HXA.out hgq HXA.out.size (fun x hx => by injection hx with hx; subst hx; rw [HMBE.out]; exact Nat.le_refl _)
      have hsq : Sl wq A' m' (g.args.map I) := ⟨HSG.out.1, fun j u hu => by
       obtain ⟨p, o, e, hc⟩ := HSG.out.2 j u hu
       refine ⟨p, o, e, (hgq.cell_far ⟨p, o + j, none⟩ (lt_of_cell hc) (fun q => ?_)).trans hc⟩
       have q1 : p = mb := by simpa using q
       subst q1
       obtain ⟨D, ⟨es, clock, hb, -⟩, -⟩ := HMPA.out
       unfold World.cell? at hc
       rw [hb] at hc; simp at hc⟩
      have HBXQ := Lib.hid hbq; have HOGQ := Lib.hid hogq; have HEQ := Lib.hid hxq; have HMQ := Lib.hid hmq
      have hov : ∀ Q, Ext wq Q → Calls Try.prog 56 #[gateV g.kind g.num A' m' c'] Q fun e w' => ∃ A2 c2, e = .returned (gateV g.kind g.num A2 m' c2) ∧ w'.ownsRow Q.heap.size 3 1 (.slice A2 m' c2) m' (g.args.map I) ∧ Ext Q w' := fun Q hQ => own_any g.kind g.num A' m' c' g.args Q (hsq.keep hQ.keeps) (by omega)
      have OW := Lib.hid hov
      have G0 : Hid (wq.cell? ⟨wr.heap.size, 0, none⟩ = some (I g.kind)) := hba2.cell 0; have G1 : Hid (wq.cell? ⟨wr.heap.size, 1, none⟩ = some (I g.num)) := hba2.cell 1; have G2 : Hid (wq.cell? ⟨wr.heap.size, 2, none⟩ = some (.slice A' m' c')) := hba2.cell 2
      have M1 : Hid (wq.cell? ⟨b7, 1, none⟩ = some (.slice A nk c)) := hbq.cell 1
      clear m1 hnb hbq hnr hogq hnb2 hba2 hxq hsq hov hmq hgq HBXA HOGA HMPA HBA HSG hcv
      refine wp_flow4 5 3 [isV (.pointer (some ⟨b7, 1, none⟩)), isV (.slice A nk c), isV (.agg #[I g.kind, I g.num, .slice A' m' c']), fun v w => ∃ A c, v = .agg #[I g.kind, I g.num, .slice A m' c] ∧ w.ownsRow wq.heap.size 3 1 (.slice A m' c) m' (g.args.map I), fun v w => ∃ b A c, v = .slice (some ⟨b, 0, none⟩) 1 1 ∧ Box w b 95 [I g.kind, I g.num, .slice A m' c] ∧ w.ownsRow wq.heap.size 3 1 (.slice A m' c) m' (g.args.map I)] (by kernel_rfl) rfl rfl (by kernel_rfl) (by kernel_rfl) ⟨isV_mono, isV_mono, isV_mono, fun v w w' ⟨A, c, e, h⟩ hx => ⟨A, c, e, own_ext h hx⟩, fun v w w' ⟨b, A, c, e, h, k⟩ hx => ⟨b, A, c, e, h.ext hx, own_ext k hx⟩, trivial⟩ ?each ?rest
      case each =>
       refine .cons ?_ (.cons ?_ (.cons ?_ (.cons ?_ (.cons ?_ (.nil)))))
       ·intro fa fw hx hs hb
        have s7 : fa.tmps[(7 : Nat)]? = some (.pointer (some ⟨b7, 0, none⟩)) := (hb 7 (by kernel_rfl)).trans (by rfl)
        refine .inl ⟨wanted_free rfl, fun K hK => ?_⟩
        clear hs hb hx
        go_simp
        exact hK _ _ rfl (Ext.refl _)
       ·intro fa fw hx hs hb
        obtain ⟨_, s48, rfl⟩ := hs 0 48 (by kernel_rfl) (by kernel_rfl)
        have c0 := hx.keeps _ _ M1.out
        refine .inl ⟨wanted_free rfl, fun K hK => ?_⟩
        clear hs hb hx
        go_simp
        exact hK _ _ rfl (Ext.refl _)
       ·intro fa fw hx hs hb
        have s9 : fa.tmps[(9 : Nat)]? = some (.pointer (some ⟨wr.heap.size, 0, none⟩)) := (hb 9 (by kernel_rfl)).trans (by rfl)
        have c0 := hx.keeps _ _ G0.out
        have c1 := hx.keeps _ _ G1.out
        have c2 := hx.keeps _ _ G2.out
        refine .inl ⟨wanted_free rfl, fun K hK => ?_⟩
        clear hs hb hx
        go_simp
        exact hK _ _ rfl (Ext.refl _)
       ·intro fa fw hx hs hb
        obtain ⟨_, s50, rfl⟩ := hs 2 50 (by kernel_rfl) (by kernel_rfl)
        refine .inl ⟨wanted_free rfl, fun K hK => ?_⟩
        clear hs hb
        go_simp
        refine (OW.out fw hx).mono ?_
        rintro e w' ⟨A', c', rfl, ho, xq⟩
        exact hK _ _ ⟨A', c', rfl, own_base ho hx.size⟩ xq
       ·intro fa fw hx hs hb
        obtain ⟨_, s51, A51, c51, rfl, q51⟩ := hs 3 51 (by kernel_rfl) (by kernel_rfl)
        refine .inl ⟨wanted_free rfl, fun K hK => ?_⟩
        clear hs hb
        go_simp
        exact hK _ _ ⟨fw.heap.size, A51, c51, rfl, Box.new fw _ _, own_ext q51 ((Ext.refl fw).alloc _)⟩ ((Ext.refl _).alloc _)
      case rest =>
       intro w5 hxw5
       rintro _ rfl
       rintro _ rfl
       rintro _ rfl
       rintro _ ⟨A51, c51, rfl, q51⟩
       rintro _ ⟨b52, A52, c52, rfl, k52, q52⟩
       simp only [putAll, List.take, Act.put, List.setIfInBounds_toArray, List.set_cons_zero, List.set_cons_succ]
       obtain ⟨inf, hti, htz, hts1, hts2⟩ := info_parts tab_gate
       have hog5 := HOGQ.out.ext hxw5
       have hbx5 := HBXQ.out.ext hxw5
       have hmp5 := HMQ.out.ext hxw5
       refine wpAny_ready (rs := [5]) (by kernel_rfl) (by simp) (AllReady.cons rfl (fun KK hKK => ?_) AllReady.nil)
       refine step_append_lies _ rfl (.tmp 49) (.tmp 52) 36 rfl w2.heap.size 95 inf _ 3 40 Try.underlying36 hti htz hts1 hts2 rfl (by omega) (.slice A nk c) nk _ rfl (by have := hog5.row; rw [HLEN.out] at this; exact this) ⟨b52, 0, none⟩ 1 1 [I g.kind, I g.num, .slice A52 m' c52] rfl rfl (fun j u hu => by rw [add_zero, k52.cell]; exact hu) (by simp [Value.oneCell']) (by omega) (by unfold maxLen; omega) (by omega) (HEQ.out.trans hxw5).size _ rfl ?_
       intro g6 cap6 w6 hown6 hgr6 _ _
       refine hKK _ _ ?_
       clear hKK KK
       have hog6 := HOGQ.out.push hxw5 HEQ.out.size (g := g) (v := .slice A52 m' c52) (by rw [HGLA.out]; exact q52) (by rw [HLEN.out]; exact hown6) hgr6
       have hrow : (Value.slice A nk c).ownBlock ≠ some b7 := hbx5.apart hog5.row (by decide)
       have hbx6 := hbx5.kept hgr6 hrow
       have hmp6 := hmp5.kept hgr6 (hmp5.ne_row hog5.row)
       have hx6 : Ext w2 w6 := Below.grown (HEQ.out.trans hxw5) hgr6 (HEQ.out.trans hxw5).size (fun b hb => (hog5.row.lt b hb).1)
       have m1 := (hbx6.cell 1).trans rfl
       simp only [List.getElem?_cons_zero, List.getElem?_cons_succ] at m1
       have f6 := hbx6.free
       have hnm : b7 ≠ mb := hmp6.ne_box hbx6
       have HB6 := Lib.hid hbx6; have HG6 := Lib.hid hog6; have HM6 := Lib.hid hmp6; have HX6 := Lib.hid hx6; have HNM := Lib.hid hnm
       clear hbx6 hog6 hmp6 hx6 hbx5 hog5 hmp5 hrow hown6 hgr6 k52 q52 q51 hnm
       refine wpAny_ready (rs := [6]) (by kernel_rfl) (by simp) (AllReady.cons rfl (fun KK hKK => ?_) AllReady.nil)
       go_simp
       refine hKK _ _ ?_
       clear hKK KK
       refine wpAny_ready (rs := [7]) (by kernel_rfl) (by simp) (AllReady.cons rfl (fun KK hKK => ?_) AllReady.nil)
       go_simp
       refine hKK _ _ ?_
       clear hKK KK m1 f6
       refine wpAny_done (by kernel_rfl) ?_ _
       have HB7' := Lib.hid (HB6.out.set 1 (.slice (some ⟨g6, 0, none⟩) (nk + 1) cap6)); have HG7 := Lib.hid (HG6.out.box HB6.out 1 (.slice (some ⟨g6, 0, none⟩) (nk + 1) cap6))
       have HM7 := Lib.hid (HM6.out.set HNM.out 1 (.slice (some ⟨g6, 0, none⟩) (nk + 1) cap6))
       have hge : w2.heap.size ≤ b7 := by rw [HB7.out]; omega
       have HX7 := Lib.hid (HX6.out.setCell (p := ⟨b7, 1, none⟩) hge (.slice (some ⟨g6, 0, none⟩) (nk + 1) cap6))
       clear HB6 HG6 HM6 HX6 hge
       go_wp2
       go_roundw
       case rel => exact ⟨k + 1, some ⟨g6, 0, none⟩, cap6, vs ++ [.slice A52 m' c52], _, by omega, by go_num, HX7.out, by rw [HCN.out]; exact HB7'.out, by rw [HCN.out, HKN.out]; exact HG7.out, by rw [HCN.out]; exact HM7.out, HTO.out⟩
       case measure => simp [intOf]; omega
    ·obtain rfl : gn = k := by omega
     have ht1 : N.gates.take gn = N.gates := List.take_of_length_le (by rw [HGL.out]; exact Nat.le_refl _)
     have ht2 : (isM N).take gn = isM N := List.take_of_length_le (by rw [HIL.out]; exact Nat.le_refl _)
     rw [ht1, ht2] at hog
     rw [ht2] at hbx hmap
     obtain ⟨H, hH⟩ : ∃ H, H = keepGs id N.gates (isM N) := ⟨_, rfl⟩
     obtain ⟨dn, hdn⟩ : ∃ dn, dn = cnt (isM N) := ⟨_, rfl⟩
     rw [← hH] at hog
     rw [← hdn] at hbx hog hmap
     have hHl : H.length = dn := by rw [hH, hdn]; exact keepGs_len id _ _ (is_len N).symm
     have hHd : (dropN N).gates = H.map (renG (toM N)) := by rw [hH, ← keepGs_map]; rfl
     have hto2 : MapTo N N.gates.length mf := by rw [HGL.out]; exact hto
     have hHa : ∀ g ∈ H, g.args.length ≤ 16 ∧ ∀ a ∈ g.args, (0 ≤ a ∧ a ≤ 1000000) ∧ mf a = valI (toM N) a := by
      intro g hg
      rw [hH] at hg
      obtain ⟨j, h1, h2⟩ := mem_keepGs hg
      refine ⟨HOK.out.al g (List.mem_of_getElem? h1), fun a ha => ?_⟩
      have hon := kept_args HOK.out h1 (by simp [onI, h2]) a ha
      have hr := HOK.out.gate (List.mem_of_getElem? h1)
      obtain ⟨r0, r1⟩ := hr.args a ha
      have := HGL.out
      exact ⟨⟨r0, by omega⟩, hto2.to hon r0⟩
     have hwant : ∀ a ∈ N.outs ++ nextsM N, (0 ≤ a ∧ a ≤ 1000000) ∧ mf a = valI (toM N) a := by
      intro a ha
      obtain ⟨r0, r1⟩ := wanted_in HOK.out a ha
      have := HGL.out
      exact ⟨⟨r0, by omega⟩, hto2.to (want_on HOK.out ha) r0⟩
     have hdn2 : dn ≤ 200 := by rw [hdn]; have := cnt_len (isM N); have := HIL.out; omega
     obtain ⟨wg, hwg⟩ : ∃ q, q = wr := ⟨_, rfl⟩
     subst hwg
     have HHL := Lib.hid hHl; have HHD := Lib.hid hHd; have HHA := Lib.hid hHa; have HWANT := Lib.hid hwant
     have HE := Lib.hid hext; have HBX := Lib.hid hbx; have HOG := Lib.hid hog; have HMP := Lib.hid hmap
     have XG := Lib.hid (X12.out.trans hext)
     have E0 := Lib.hid (XG.out.keeps _ _ B0.out); have E2 := Lib.hid (XG.out.keeps _ _ B2.out); have E3 := Lib.hid (XG.out.keeps _ _ B3.out)
     have hcs : ∀ Q, Ext wg Q → Calls Try.prog 55 #[.slice RA rn rc] Q fun e w' => ∃ v, e = .returned v ∧ w'.ownsRow Q.heap.size 79 2 v rn (storeCs N.regs) ∧ Ext Q w' := fun Q hQ => cloneStores_any RA rn rc N.regs Q (NN.out.regs.keep (XG.out.trans hQ).keeps) (by omega)
     have hci : ∀ Q, Ext wg Q → Calls Try.prog 48 #[.slice OA on oc] Q fun e w' => ∃ v, e = .returned v ∧ w'.ownsRow Q.heap.size 3 1 v on (N.outs.map I) ∧ Ext Q w' := fun Q hQ => cloneInts_any OA on oc N.outs Q (NN.out.outs.keep (XG.out.trans hQ).keeps) (by omega)
     have CS := Lib.hid hcs; have CI := Lib.hid hci
     clear hext hbx hog hmap hto hto2 ht1 ht2 hH hdn hHl hHd hHa hwant hcs hci
     go_wp2_with fail
     refine wp_flow4 9 5 [isV (.pointer (some ⟨w.heap.size, 0, none⟩)), isV (I i), isV (.pointer (some ⟨w.heap.size, 2, none⟩)), isV (.slice RA rn rc), fun v w => ∃ A c, v = .slice A rn c ∧ w.ownsRow wg.heap.size 79 2 (.slice A rn c) rn (storeCs N.regs), isV (.pointer (some ⟨w.heap.size, 3, none⟩)), isV (.slice OA on oc), fun v w => ∃ A c, v = .slice A on c ∧ w.ownsRow wg.heap.size 3 1 (.slice A on c) on (N.outs.map I), isV (.pointer (some ⟨b7, 0, none⟩))] (by kernel_rfl) rfl rfl (by kernel_rfl) (by kernel_rfl) ⟨isV_mono, isV_mono, isV_mono, isV_mono, fun v w w' ⟨A, c, e, h⟩ hx => ⟨A, c, e, own_ext h hx⟩, isV_mono, isV_mono, fun v w w' ⟨A, c, e, h⟩ hx => ⟨A, c, e, own_ext h hx⟩, isV_mono, trivial⟩ ?each ?rest
     case each =>
      refine .cons ?_ (.cons ?_ (.cons ?_ (.cons ?_ (.cons ?_ (.cons ?_ (.cons ?_ (.cons ?_ (.cons ?_ (.nil)))))))))
      ·intro fa fw hx hs hb
       have s1 : fa.tmps[(1 : Nat)]? = some (.pointer (some ⟨w.heap.size, 0, none⟩)) := (hb 1 (by kernel_rfl)).trans (by rfl)
       refine .inl ⟨wanted_free rfl, fun K hK => ?_⟩
       clear hs hb hx
       go_simp
       exact hK _ _ rfl (Ext.refl _)
      ·intro fa fw hx hs hb
       obtain ⟨_, s56, rfl⟩ := hs 0 56 (by kernel_rfl) (by kernel_rfl)
       have c0 := hx.keeps _ _ E0.out
       refine .inl ⟨wanted_free rfl, fun K hK => ?_⟩
       clear hs hb hx
       go_simp
       exact hK _ _ rfl (Ext.refl _)
      ·intro fa fw hx hs hb
       have s1 : fa.tmps[(1 : Nat)]? = some (.pointer (some ⟨w.heap.size, 0, none⟩)) := (hb 1 (by kernel_rfl)).trans (by rfl)
       refine .inl ⟨wanted_free rfl, fun K hK => ?_⟩
       clear hs hb hx
       go_simp
       exact hK _ _ rfl (Ext.refl _)
      ·intro fa fw hx hs hb
       obtain ⟨_, s58, rfl⟩ := hs 2 58 (by kernel_rfl) (by kernel_rfl)
       have c0 := hx.keeps _ _ E2.out
       refine .inl ⟨wanted_free rfl, fun K hK => ?_⟩
       clear hs hb hx
       go_simp
       exact hK _ _ rfl (Ext.refl _)
      ·intro fa fw hx hs hb
       obtain ⟨_, s59, rfl⟩ := hs 3 59 (by kernel_rfl) (by kernel_rfl)
       refine .inl ⟨wanted_free rfl, fun K hK => ?_⟩
       clear hs hb
       go_simp
       refine (CS.out fw hx).mono ?_
       rintro e w' ⟨r0, rfl, ho, xq⟩
       obtain ⟨Aq, cq, rfl, -, -, -⟩ := own_slice ho
       exact hK _ _ ⟨Aq, cq, rfl, own_base ho hx.size⟩ xq
      ·intro fa fw hx hs hb
       have s1 : fa.tmps[(1 : Nat)]? = some (.pointer (some ⟨w.heap.size, 0, none⟩)) := (hb 1 (by kernel_rfl)).trans (by rfl)
       refine .inl ⟨wanted_free rfl, fun K hK => ?_⟩
       clear hs hb hx
       go_simp
       exact hK _ _ rfl (Ext.refl _)
      ·intro fa fw hx hs hb
       obtain ⟨_, s61, rfl⟩ := hs 5 61 (by kernel_rfl) (by kernel_rfl)
       have c0 := hx.keeps _ _ E3.out
       refine .inl ⟨wanted_free rfl, fun K hK => ?_⟩
       clear hs hb hx
       go_simp
       exact hK _ _ rfl (Ext.refl _)
      ·intro fa fw hx hs hb
       obtain ⟨_, s62, rfl⟩ := hs 6 62 (by kernel_rfl) (by kernel_rfl)
       refine .inl ⟨wanted_free rfl, fun K hK => ?_⟩
       clear hs hb
       go_simp
       refine (CI.out fw hx).mono ?_
       rintro e w' ⟨r0, rfl, ho, xq⟩
       obtain ⟨Aq, cq, rfl, -, -, -⟩ := own_sl ho
       exact hK _ _ ⟨Aq, cq, rfl, own_base ho hx.size⟩ xq
      ·intro fa fw hx hs hb
       have s7 : fa.tmps[(7 : Nat)]? = some (.pointer (some ⟨b7, 0, none⟩)) := (hb 7 (by kernel_rfl)).trans (by rfl)
       refine .inl ⟨wanted_free rfl, fun K hK => ?_⟩
       clear hs hb hx
       go_simp
       exact hK _ _ rfl (Ext.refl _)
     case rest =>
      intro w8 hxw8
      rintro _ rfl
      rintro _ rfl
      rintro _ rfl
      rintro _ rfl
      rintro _ ⟨A60, c60, rfl, q60⟩
      rintro _ rfl
      rintro _ rfl
      rintro _ ⟨A63, c63, rfl, q63⟩
      rintro _ rfl
      simp only [putAll, List.take, Act.put, List.setIfInBounds_toArray, List.set_cons_zero, List.set_cons_succ]
      have hbx8 := HBX.out.ext hxw8
      have m0 := (hbx8.cell 0).trans rfl; have m2 := (hbx8.cell 2).trans rfl; have m3 := (hbx8.cell 3).trans rfl
      simp only [List.getElem?_cons_zero, List.getElem?_cons_succ] at m0 m2 m3
      have f8 := hbx8.free
      have HB8 := Lib.hid hbx8; have X8 := Lib.hid hxw8; have QR := Lib.hid q60; have QO := Lib.hid q63
      clear hbx8 hxw8 q60 q63
      refine wpAny_ready (rs := [9]) (by kernel_rfl) (by simp) (AllReady.cons rfl (fun KK hKK => ?_) AllReady.nil)
      go_simp
      refine hKK _ _ ?_
      clear hKK KK
      refine wpAny_ready (rs := [10]) (by kernel_rfl) (by simp) (AllReady.cons rfl (fun KK hKK => ?_) AllReady.nil)
      go_simp
      refine hKK _ _ ?_
      clear hKK KK
      refine wpAny_ready (rs := [11]) (by kernel_rfl) (by simp) (AllReady.cons rfl (fun KK hKK => ?_) AllReady.nil)
      go_simp
      refine hKK _ _ ?_
      clear hKK KK
      refine wpAny_ready (rs := [12]) (by kernel_rfl) (by simp) (AllReady.cons rfl (fun KK hKK => ?_) AllReady.nil)
      go_simp
      refine hKK _ _ ?_
      clear hKK KK
      refine wpAny_ready (rs := [13]) (by kernel_rfl) (by simp) (AllReady.cons rfl (fun KK hKK => ?_) AllReady.nil)
      go_simp
      refine hKK _ _ ?_
      clear hKK KK
      clear m0 m2 m3 f8
      refine wpAny_done (by kernel_rfl) ?_ _
      obtain ⟨w9, hw9⟩ : ∃ w9, w9 = ((w8.setCell ⟨b7, 0, none⟩ (I i)).setCell ⟨b7, 2, none⟩ (.slice A60 rn c60)).setCell ⟨b7, 3, none⟩ (.slice A63 on c63) := ⟨_, rfl⟩
      have hge : w2.heap.size ≤ b7 := by rw [HB7.out]; omega
      have hDW : DropW w2 b7 mb dn mf i A dn c A60 rn c60 A63 on c63 vs w9 H N.regs N.outs := by
       have hg8 := HOG.out.ext X8.out
       have hm8 := HMP.out.ext X8.out
       have hnm : b7 ≠ mb := hm8.ne_box HB8.out
       have ar := HB8.out.apart QR.out (by decide); have ao := HB8.out.apart QO.out (by decide)
       refine ⟨?_, ?_, ?_, ?_, ?_, ?_, ?_⟩
       ·rw [hw9]; exact (((HE.out.trans X8.out).setCell (p := ⟨b7, 0, none⟩) hge _).setCell (p := ⟨b7, 2, none⟩) hge _).setCell (p := ⟨b7, 3, none⟩) hge _
       ·rw [hw9]; exact ((HB8.out.set 0 (I i)).set 2 (.slice A60 rn c60)).set 3 (.slice A63 on c63)
       ·rw [hw9]; exact ((hg8.box HB8.out 0 (I i)).box (HB8.out.set 0 (I i)) 2 (.slice A60 rn c60)).box ((HB8.out.set 0 (I i)).set 2 (.slice A60 rn c60)) 3 (.slice A63 on c63)
       ·rw [hw9]; exact own_base (own_set (own_set (own_set QR.out ar _ _) ar _ _) ar _ _) HE.out.size
       ·rw [hw9]; exact own_base (own_set (own_set (own_set QO.out ao _ _) ao _ _) ao _ _) HE.out.size
       ·rw [hw9]; exact ((hm8.set hnm 0 (I i)).set hnm 2 (.slice A60 rn c60)).set hnm 3 (.slice A63 on c63)
       ·intro v hv ob hO e
        obtain ⟨j, hj⟩ := List.mem_iff_getElem?.1 hv
        have hj2 : j < H.length := by have := HOG.out.vl; have := (List.getElem?_eq_some_iff.1 hj).1; omega
        have h1 := (HOG.out.own j v _ hj (List.getElem?_eq_getElem hj2)).lt ob e
        have h2 := (QO.out.lt ob (by rw [hO]; simp [Value.ownBlock])).1
        omega
      have DW := Lib.hid hDW; have HW9 := Lib.hid hw9
      have hm1 := (hDW.box.cell 1).trans rfl
      simp only [List.getElem?_cons_zero, List.getElem?_cons_succ] at hm1
      clear hDW hw9 HB8 X8 QR QO
      rw [← HW9.out]
      go_wp2_with fail
      clear hm1 HW9
      go_loopw [70] (fun j wr => ∃ (k : Nat), k ≤ dn ∧ j = .int .i64 k ∧ DropW w2 b7 mb dn mf i A dn c A60 rn c60 A63 on c63 vs wr (mixA (renG (toM N)) k H) N.regs N.outs) (fun j _ => dn - (intOf j).toNat)
      case atStart => exact ⟨0, Nat.zero_le _, rfl, by rw [mixA_zero]; exact DW.out⟩
      case round =>
       obtain ⟨k, hk, rfl, hd⟩ := hrel
       have hm1 := (hd.box.cell 1).trans rfl
       simp only [List.getElem?_cons_zero, List.getElem?_cons_succ] at hm1
       by_cases hlt : k < dn
       ·obtain ⟨g, hg⟩ : ∃ g, H[k]? = some g := ⟨_, List.getElem?_eq_getElem (by rw [HHL.out]; exact hlt)⟩
        have hgm := mixA_at (renG (toM N)) hg
        obtain ⟨v, hv⟩ : ∃ v, vs[k]? = some v := ⟨_, List.getElem?_eq_getElem (by have := hd.gates.vl; rw [mixA_len, HHL.out] at this; omega)⟩
        obtain ⟨hg16, hga⟩ := HHA.out g (List.mem_of_getElem? hg)
        obtain ⟨gb, gcc, eg⟩ := own_form hd.gates.row (by rw [mixA_len, HHL.out]; omega)
        have eA : A = some ⟨gb, 0, none⟩ := by injection eg
        clear eg
        subst eA
        have hrow := hd.gates.row
        rw [mixA_len, HHL.out] at hrow
        obtain ⟨-, -, e2⟩ := gateCs_at _ vs k g v hgm hv
        obtain ⟨Av, cv, rfl, -, -, -⟩ := own_sl (hd.gates.own k v g hv hgm)
        obtain ⟨m, hm⟩ : ∃ m, m = g.args.length := ⟨_, rfl⟩
        rw [← hm] at hv e2 hg16
        have c2 := hrow.cellAt (k * 3 + 2) (by omega)
        rw [e2] at c2
        have HV := Lib.hid hv; have HGM := Lib.hid hgm; have HG := Lib.hid hg; have HGA := Lib.hid hga; have HD := Lib.hid hd; have HM := Lib.hid hm
        clear hd hv hgm hg hga hrow e2 hm
        go_wp2_with fail
        clear hm1 c2
        go_loopw [80] (fun j wr2 => ∃ (q : Nat), q ≤ m ∧ j = .int .i64 q ∧ DropW w2 b7 mb dn mf i (some ⟨gb, 0, none⟩) dn c A60 rn c60 A63 on c63 vs wr2 ((mixA (renG (toM N)) k H).set k ⟨g.kind, g.num, mixA (valI (toM N)) q g.args⟩) N.regs N.outs) (fun j _ => m - (intOf j).toNat)
        case atStart => exact ⟨0, Nat.zero_le _, rfl, by rw [mixA_zero, set_same HGM.out]; exact HD.out⟩
        case round =>
         obtain ⟨q, hq, rfl, hd⟩ := hrel
         have hkG : k < (mixA (renG (toM N)) k H).length := (List.getElem?_eq_some_iff.1 HGM.out).1
         by_cases hlq : q < m
         ·obtain ⟨a, ha⟩ : ∃ a, g.args[q]? = some a := ⟨_, List.getElem?_eq_getElem (by rw [← HM.out]; exact hlq)⟩
          obtain ⟨⟨ha0, ha1⟩, hfa⟩ := HGA.out a (List.mem_of_getElem? ha)
          have hgk : ((mixA (renG (toM N)) k H).set k ⟨g.kind, g.num, mixA (valI (toM N)) q g.args⟩)[k]? = some ⟨g.kind, g.num, mixA (valI (toM N)) q g.args⟩ := List.getElem?_set_self hkG
          have hown := hd.gates.own k _ _ HV.out hgk
          simp only [mixA_len] at hown
          rw [← HM.out] at hown
          obtain ⟨ab, cc, ea⟩ := own_form hown (by omega)
          have eAv : Av = some ⟨ab, 0, none⟩ := by injection ea
          clear ea
          subst eAv
          have c3 := hown.cellAt q (by omega)
          rw [List.getElem?_map, mixA_at _ ha, Option.map_some] at c3
          have fz := hown.frozenAt
          have hrow := hd.gates.row
          simp only [List.length_set, mixA_len, HHL.out] at hrow
          have c4 := hrow.cellAt (k * 3 + 2) (by omega)
          obtain ⟨-, -, e2⟩ := gateCs_at _ vs k _ _ hgk HV.out
          rw [e2] at c4
          have hm1 := (hd.box.cell 1).trans rfl
          simp only [List.getElem?_cons_zero, List.getElem?_cons_succ] at hm1
          have HD2 := Lib.hid hd
          have HFA := Lib.hid hfa; have HA := Lib.hid ha
          have WA := Lib.hid (wf_small (a := a) ha0 ha1)
          have HGK := Lib.hid hgk
          have C4 : Hid (wr.cell? ⟨gb, k * 3 + 2, none⟩ = some (.slice (some ⟨ab, 0, none⟩) m cv)) := c4
          have M1 : Hid (wr.cell? ⟨b7, 1, none⟩ = some (.slice (some ⟨gb, 0, none⟩) dn c)) := hm1
          clear hd hfa ha hown hrow e2 hgk hkG fz
          go_wp2_with fail
          clear c3 c4 hm1
          refine wp_flow4 10 2 [isV (.pointer (some ⟨b7, 1, none⟩)), isV (.slice (some ⟨gb, 0, none⟩) dn c), isV (.int .i64 k), isV (.pointer (some ⟨gb, k * 3, none⟩)), isV (.pointer (some ⟨gb, k * 3 + 2, none⟩)), isV (.slice (some ⟨ab, 0, none⟩) m cv), isV (.int .i64 q), isV (.map (some mb)), isV (I a), isV (I (valI (toM N) a))] (by kernel_rfl) rfl rfl (by kernel_rfl) (by kernel_rfl) ⟨isV_mono, isV_mono, isV_mono, isV_mono, isV_mono, isV_mono, isV_mono, isV_mono, isV_mono, isV_mono, trivial⟩ ?each ?rest
          case each =>
           refine .cons ?_ (.cons ?_ (.cons ?_ (.cons ?_ (.cons ?_ (.cons ?_ (.cons ?_ (.cons ?_ (.cons ?_ (.cons ?_ (.nil))))))))))
           ·intro fa fw hx hs hb
            have s7 : fa.tmps[(7 : Nat)]? = some (.pointer (some ⟨b7, 0, none⟩)) := (hb 7 (by kernel_rfl)).trans (by rfl)
            refine .inl ⟨wanted_free rfl, fun K hK => ?_⟩
            clear hs hb hx
            go_simp
            exact hK _ _ rfl (Ext.refl _)
           ·intro fa fw hx hs hb
            obtain ⟨_, s85, rfl⟩ := hs 0 85 (by kernel_rfl) (by kernel_rfl)
            have c0 := hx.keeps _ _ M1.out
            refine .inl ⟨wanted_free rfl, fun K hK => ?_⟩
            clear hs hb hx
            go_simp
            exact hK _ _ rfl (Ext.refl _)
           ·intro fa fw hx hs hb
            have s10 : fa.tmps[(10 : Nat)]? = some (.int .i64 k) := (hb 10 (by kernel_rfl)).trans (by rfl)
            refine .inl ⟨wanted_free rfl, fun K hK => ?_⟩
            clear hs hb hx
            go_simp
            exact hK _ _ rfl (Ext.refl _)
           ·intro fa fw hx hs hb
            obtain ⟨_, s86, rfl⟩ := hs 1 86 (by kernel_rfl) (by kernel_rfl)
            obtain ⟨_, s87, rfl⟩ := hs 2 87 (by kernel_rfl) (by kernel_rfl)
            refine .inl ⟨wanted_free rfl, fun K hK => ?_⟩
            clear hs hb hx
            go_simp
            exact hK _ _ rfl (Ext.refl _)
           ·intro fa fw hx hs hb
            obtain ⟨_, s88, rfl⟩ := hs 3 88 (by kernel_rfl) (by kernel_rfl)
            refine .inl ⟨wanted_free rfl, fun K hK => ?_⟩
            clear hs hb hx
            go_simp
            exact hK _ _ rfl (Ext.refl _)
           ·intro fa fw hx hs hb
            obtain ⟨_, s89, rfl⟩ := hs 4 89 (by kernel_rfl) (by kernel_rfl)
            have c0 := hx.keeps _ _ C4.out
            refine .inl ⟨wanted_free rfl, fun K hK => ?_⟩
            clear hs hb hx
            go_simp
            exact hK _ _ rfl (Ext.refl _)
           ·intro fa fw hx hs hb
            have s11 : fa.tmps[(11 : Nat)]? = some (.int .i64 q) := (hb 11 (by kernel_rfl)).trans (by rfl)
            refine .inl ⟨wanted_free rfl, fun K hK => ?_⟩
            clear hs hb hx
            go_simp
            exact hK _ _ rfl (Ext.refl _)
           ·intro fa fw hx hs hb
            have s6 : fa.tmps[(6 : Nat)]? = some (.map (some mb)) := (hb 6 (by kernel_rfl)).trans (by rfl)
            refine .inl ⟨wanted_free rfl, fun K hK => ?_⟩
            clear hs hb hx
            go_simp
            exact hK _ _ rfl (Ext.refl _)
           ·intro fa fw hx hs hb
            have s12 : fa.tmps[(12 : Nat)]? = some (I a) := (hb 12 (by kernel_rfl)).trans (by rfl)
            refine .inl ⟨wanted_free rfl, fun K hK => ?_⟩
            clear hs hb hx
            go_simp
            exact hK _ _ rfl (Ext.refl _)
           ·intro fa fw hx hs hb
            obtain ⟨_, s92, rfl⟩ := hs 7 92 (by kernel_rfl) (by kernel_rfl)
            obtain ⟨_, s93, rfl⟩ := hs 8 93 (by kernel_rfl) (by kernel_rfl)
            refine .inl ⟨wanted_free rfl, fun K hK => ?_⟩
            clear hs hb
            refine wp_lookupI (.tmp 92) (.tmp 93) rfl mb dn mf (by go_simp) (HD2.out.more hx).map _ (by go_simp) WA.out _ HFA.out ?_
            exact hK _ _ rfl (Ext.refl _)
          case rest =>
           intro w3 hxw3
           rintro _ rfl
           rintro _ rfl
           rintro _ rfl
           rintro _ rfl
           rintro _ rfl
           rintro _ rfl
           rintro _ rfl
           rintro _ rfl
           rintro _ rfl
           rintro _ rfl
           simp only [putAll, List.take, Act.put, List.setIfInBounds_toArray, List.set_cons_zero, List.set_cons_succ]
           have hd3 := HD2.out.more hxw3
           have hown := hd3.gates.own k _ _ HV.out HGK.out
           simp only [mixA_len] at hown
           rw [← HM.out] at hown
           have c3 := hown.cellAt q (by omega)
           rw [List.getElem?_map, mixA_at _ HA.out, Option.map_some] at c3
           have fz := hown.frozenAt
           have hqc : m ≤ cv ∧ cv ≤ maxLen := by
            obtain ⟨A', c', e, h1, h2, -⟩ := own_sl hown
            injection e with _ _ e3; subst e3; exact ⟨h1, h2⟩
           have hqm := hqc.1
           have hqn := hqc.2
           unfold maxLen at hqn
           have hd4 := hd3.arg HGK.out HV.out q (valI (toM N) a)
           simp only [List.set_set] at hd4
           rw [mixA_set _ HA.out] at hd4
           have HD4 := Lib.hid hd4
           clear hd3 hd4 hown hqc hxw3
           refine wpAny_ready (rs := [10]) (by kernel_rfl) (by simp) (AllReady.cons rfl (fun KK hKK => ?_) AllReady.nil)
           go_simp
           refine hKK _ _ ?_
           clear hKK KK
           refine wpAny_ready (rs := [11]) (by kernel_rfl) (by simp) (AllReady.cons rfl (fun KK hKK => ?_) AllReady.nil)
           go_simp
           refine hKK _ _ ?_
           clear hKK KK
           clear c3 fz
           refine wpAny_done (by kernel_rfl) ?_ _
           go_wp2
           go_roundw
           case rel => exact ⟨q + 1, by omega, by go_num, HD4.out⟩
           case measure => simp [intOf]; omega
         ·obtain rfl : m = q := by omega
          rw [mixA_all _ HM.out.symm] at hd
          have hd5 : DropW w2 b7 mb dn mf i (some ⟨gb, 0, none⟩) dn c A60 rn c60 A63 on c63 vs wr (mixA (renG (toM N)) (k + 1) H) N.regs N.outs := by
           rw [← mixA_set _ HG.out]; exact hd
          have HD5 := Lib.hid hd5
          clear hd hd5
          go_wp2
          go_roundw
          case rel => exact ⟨k + 1, by omega, by go_num, HD5.out⟩
          case measure => simp [intOf]; omega
       ·obtain rfl : dn = k := by omega
        rw [mixA_all _ HHL.out, ← HHD.out] at hd
        obtain ⟨GG, hGG⟩ : ∃ q, q = (dropN N).gates := ⟨_, rfl⟩
        rw [← hGG] at hd
        have HGG := Lib.hid hGG; have HD := Lib.hid hd
        have hm2 := (hd.box.cell 2).trans rfl
        simp only [List.getElem?_cons_zero, List.getElem?_cons_succ] at hm2
        clear hm1 hd hGG
        go_wp2_with fail
        clear hm2
        go_loopw [101] (fun j wr => ∃ (k : Nat), k ≤ rn ∧ j = .int .i64 k ∧ DropW w2 b7 mb dn mf i A dn c A60 rn c60 A63 on c63 vs wr GG (mixA (regD N) k N.regs) N.outs) (fun j _ => rn - (intOf j).toNat)
        case atStart => exact ⟨0, Nat.zero_le _, rfl, by rw [mixA_zero]; exact HD.out⟩
        case round =>
         obtain ⟨k, hk, rfl, hd⟩ := hrel
         by_cases hlr : k < rn
         ·obtain ⟨r, hr⟩ : ∃ r, N.regs[k]? = some r := ⟨_, List.getElem?_eq_getElem (by rw [HRL.out]; exact hlr)⟩
          have hrm := mixA_at (regD N) hr
          obtain ⟨⟨hr0, hr1⟩, hfr⟩ := HWANT.out r.next (List.mem_append_right _ (List.mem_map.2 ⟨r, List.mem_of_getElem? hr, rfl⟩))
          obtain ⟨rb, rcc, er⟩ := own_form hd.regs (by omega)
          have eR : A60 = some ⟨rb, 0, none⟩ := by injection er
          clear er
          subst eR
          have hcc := flat2_get RB RN (mixA (regD N) k N.regs) k
          rw [hrm] at hcc
          have hc2 := hd.regs.cellAt (k * 2 + 1) (by omega)
          rw [show storeCs (mixA (regD N) k N.regs) = (mixA (regD N) k N.regs).flatMap fun r => [RB r, RN r] from rfl, hcc.2] at hc2
          have hm2 := (hd.box.cell 2).trans rfl
          simp only [List.getElem?_cons_zero, List.getElem?_cons_succ] at hm2
          have HD2 := Lib.hid hd; have HRM := Lib.hid hrm; have HR := Lib.hid hr
          have HFR := Lib.hid hfr
          have WR := Lib.hid (wf_small (a := r.next) hr0 hr1)
          have C2 : Hid (wr.cell? ⟨rb, k * 2 + 1, none⟩ = some (I r.next)) := hc2
          have M2 : Hid (wr.cell? ⟨b7, 2, none⟩ = some (.slice (some ⟨rb, 0, none⟩) rn c60)) := hm2
          clear hd hrm hr hfr hcc hc2 hm2
          go_wp2_with fail
          refine wp_flow4 11 3 [isV (.pointer (some ⟨b7, 2, none⟩)), isV (.slice (some ⟨rb, 0, none⟩) rn c60), isV (.int .i64 k), isV (.map (some mb)), isV (.pointer (some ⟨b7, 2, none⟩)), isV (.slice (some ⟨rb, 0, none⟩) rn c60), isV (.int .i64 k), isV (.pointer (some ⟨rb, k * 2, none⟩)), isV (.pointer (some ⟨rb, k * 2 + 1, none⟩)), isV (I r.next), isV (I (valI (toM N) r.next))] (by kernel_rfl) rfl rfl (by kernel_rfl) (by kernel_rfl) ⟨isV_mono, isV_mono, isV_mono, isV_mono, isV_mono, isV_mono, isV_mono, isV_mono, isV_mono, isV_mono, isV_mono, trivial⟩ ?each ?rest
          case each =>
           refine .cons ?_ (.cons ?_ (.cons ?_ (.cons ?_ (.cons ?_ (.cons ?_ (.cons ?_ (.cons ?_ (.cons ?_ (.cons ?_ (.cons ?_ (.nil)))))))))))
           ·intro fa fw hx hs hb
            have s7 : fa.tmps[(7 : Nat)]? = some (.pointer (some ⟨b7, 0, none⟩)) := (hb 7 (by kernel_rfl)).trans (by rfl)
            refine .inl ⟨wanted_free rfl, fun K hK => ?_⟩
            clear hs hb hx
            go_simp
            exact hK _ _ rfl (Ext.refl _)
           ·intro fa fw hx hs hb
            obtain ⟨_, s104, rfl⟩ := hs 0 104 (by kernel_rfl) (by kernel_rfl)
            have c0 := hx.keeps _ _ M2.out
            refine .inl ⟨wanted_free rfl, fun K hK => ?_⟩
            clear hs hb hx
            go_simp
            exact hK _ _ rfl (Ext.refl _)
           ·intro fa fw hx hs hb
            have s13 : fa.tmps[(13 : Nat)]? = some (.int .i64 k) := (hb 13 (by kernel_rfl)).trans (by rfl)
            refine .inl ⟨wanted_free rfl, fun K hK => ?_⟩
            clear hs hb hx
            go_simp
            exact hK _ _ rfl (Ext.refl _)
           ·intro fa fw hx hs hb
            have s6 : fa.tmps[(6 : Nat)]? = some (.map (some mb)) := (hb 6 (by kernel_rfl)).trans (by rfl)
            refine .inl ⟨wanted_free rfl, fun K hK => ?_⟩
            clear hs hb hx
            go_simp
            exact hK _ _ rfl (Ext.refl _)
           ·intro fa fw hx hs hb
            have s7 : fa.tmps[(7 : Nat)]? = some (.pointer (some ⟨b7, 0, none⟩)) := (hb 7 (by kernel_rfl)).trans (by rfl)
            refine .inl ⟨wanted_free rfl, fun K hK => ?_⟩
            clear hs hb hx
            go_simp
            exact hK _ _ rfl (Ext.refl _)
           ·intro fa fw hx hs hb
            obtain ⟨_, s108, rfl⟩ := hs 4 108 (by kernel_rfl) (by kernel_rfl)
            have c0 := hx.keeps _ _ M2.out
            refine .inl ⟨wanted_free rfl, fun K hK => ?_⟩
            clear hs hb hx
            go_simp
            exact hK _ _ rfl (Ext.refl _)
           ·intro fa fw hx hs hb
            have s13 : fa.tmps[(13 : Nat)]? = some (.int .i64 k) := (hb 13 (by kernel_rfl)).trans (by rfl)
            refine .inl ⟨wanted_free rfl, fun K hK => ?_⟩
            clear hs hb hx
            go_simp
            exact hK _ _ rfl (Ext.refl _)
           ·intro fa fw hx hs hb
            obtain ⟨_, s109, rfl⟩ := hs 5 109 (by kernel_rfl) (by kernel_rfl)
            obtain ⟨_, s110, rfl⟩ := hs 6 110 (by kernel_rfl) (by kernel_rfl)
            refine .inl ⟨wanted_free rfl, fun K hK => ?_⟩
            clear hs hb hx
            go_simp
            exact hK _ _ rfl (Ext.refl _)
           ·intro fa fw hx hs hb
            obtain ⟨_, s111, rfl⟩ := hs 7 111 (by kernel_rfl) (by kernel_rfl)
            refine .inl ⟨wanted_free rfl, fun K hK => ?_⟩
            clear hs hb hx
            go_simp
            exact hK _ _ rfl (Ext.refl _)
           ·intro fa fw hx hs hb
            obtain ⟨_, s112, rfl⟩ := hs 8 112 (by kernel_rfl) (by kernel_rfl)
            have c0 := hx.keeps _ _ C2.out
            refine .inl ⟨wanted_free rfl, fun K hK => ?_⟩
            clear hs hb hx
            go_simp
            exact hK _ _ rfl (Ext.refl _)
           ·intro fa fw hx hs hb
            obtain ⟨_, s107, rfl⟩ := hs 3 107 (by kernel_rfl) (by kernel_rfl)
            obtain ⟨_, s113, rfl⟩ := hs 9 113 (by kernel_rfl) (by kernel_rfl)
            refine .inl ⟨wanted_free rfl, fun K hK => ?_⟩
            clear hs hb
            refine wp_lookupI (.tmp 107) (.tmp 113) rfl mb dn mf (by go_simp) (HD2.out.more hx).map _ (by go_simp) WR.out _ HFR.out ?_
            exact hK _ _ rfl (Ext.refl _)
          case rest =>
           intro w3 hxw3
           rintro _ rfl
           rintro _ rfl
           rintro _ rfl
           rintro _ rfl
           rintro _ rfl
           rintro _ rfl
           rintro _ rfl
           rintro _ rfl
           rintro _ rfl
           rintro _ rfl
           rintro _ rfl
           simp only [putAll, List.take, Act.put, List.setIfInBounds_toArray, List.set_cons_zero, List.set_cons_succ]
           have hd3 := HD2.out.more hxw3
           have hd4 := hd3.reg HRM.out (valI (toM N) r.next)
           have hrs : (mixA (regD N) k N.regs).set k ⟨r.fst, valI (toM N) r.next⟩ = mixA (regD N) (k + 1) N.regs := mixA_set (regD N) HR.out
           rw [hrs] at hd4
           have fz := hd3.regs.frozenAt
           have hcc := flat2_get RB RN (mixA (regD N) k N.regs) k
           rw [HRM.out] at hcc
           have c3 := hd3.regs.cellAt (k * 2 + 1) (by omega)
           rw [show storeCs (mixA (regD N) k N.regs) = (mixA (regD N) k N.regs).flatMap fun r => [RB r, RN r] from rfl, hcc.2] at c3
           have c3 : w3.cell? ⟨rb, k * 2 + 1, none⟩ = some (I r.next) := c3
           have hqc : rn ≤ c60 ∧ c60 ≤ maxLen := by
            obtain ⟨A', c', e, h1, h2, -⟩ := own_slice hd3.regs
            injection e with _ _ e3; subst e3; exact ⟨h1, h2⟩
           have hqm := hqc.1
           have hqn := hqc.2
           unfold maxLen at hqn
           have HD4 := Lib.hid hd4
           clear hd3 hd4 hrs hqc hxw3 hcc
           refine wpAny_ready (rs := [11]) (by kernel_rfl) (by simp) (AllReady.cons rfl (fun KK hKK => ?_) AllReady.nil)
           go_simp
           refine hKK _ _ ?_
           clear hKK KK
           refine wpAny_ready (rs := [12]) (by kernel_rfl) (by simp) (AllReady.cons rfl (fun KK hKK => ?_) AllReady.nil)
           go_simp
           refine hKK _ _ ?_
           clear hKK KK
           refine wpAny_ready (rs := [13]) (by kernel_rfl) (by simp) (AllReady.cons rfl (fun KK hKK => ?_) AllReady.nil)
           go_simp
           refine hKK _ _ ?_
           clear hKK KK
           clear c3 fz
           refine wpAny_done (by kernel_rfl) ?_ _
           go_wp2
           go_roundw
           case rel => exact ⟨k + 1, by omega, by go_num, HD4.out⟩
           case measure => simp [intOf]; omega
         ·obtain rfl : rn = k := by omega
          rw [mixA_all _ HRL.out] at hd
          obtain ⟨RR, hRR⟩ : ∃ q, q = N.regs.map (regD N) := ⟨_, rfl⟩
          rw [← hRR] at hd
          have HRR := Lib.hid hRR; have HD := Lib.hid hd
          have hm3 := (hd.box.cell 3).trans rfl
          simp only [List.getElem?_cons_zero, List.getElem?_cons_succ] at hm3
          clear hd hRR
          go_wp2_with fail
          clear hm3
          go_loopw [121] (fun j wr => ∃ (k : Nat), k ≤ on ∧ j = .int .i64 k ∧ DropW w2 b7 mb dn mf i A dn c A60 rn c60 A63 on c63 vs wr GG RR (mixA (valI (toM N)) k N.outs)) (fun j _ => on - (intOf j).toNat)
          case atStart => exact ⟨0, Nat.zero_le _, rfl, by rw [mixA_zero]; exact HD.out⟩
          case round =>
           obtain ⟨k, hk, rfl, hd⟩ := hrel
           by_cases hlo : k < on
           ·obtain ⟨a, ha⟩ : ∃ a, N.outs[k]? = some a := ⟨_, List.getElem?_eq_getElem (by rw [HOL.out]; exact hlo)⟩
            obtain ⟨⟨ha0, ha1⟩, hfa⟩ := HWANT.out a (List.mem_append_left _ (List.mem_of_getElem? ha))
            obtain ⟨ob, occ, eo⟩ := own_form hd.outs (by omega)
            have eO : A63 = some ⟨ob, 0, none⟩ := by injection eo
            clear eo
            subst eO
            have hc3 := hd.outs.cellAt k (by omega)
            rw [List.getElem?_map, mixA_at _ ha, Option.map_some] at hc3
            have hm3 := (hd.box.cell 3).trans rfl
            simp only [List.getElem?_cons_zero, List.getElem?_cons_succ] at hm3
            have fz := hd.outs.frozenAt
            have hqc : on ≤ c63 ∧ c63 ≤ maxLen := by
             obtain ⟨A', c', e, h1, h2, -⟩ := own_sl hd.outs
             injection e with _ _ e3; subst e3; exact ⟨h1, h2⟩
            have hqm := hqc.1
            have hqn := hqc.2
            unfold maxLen at hqn
            have hd4 := hd.out k (valI (toM N) a)
            rw [mixA_set _ ha] at hd4
            have HD4 := Lib.hid hd4; have HMD := Lib.hid hd.map
            have HFA := Lib.hid hfa; have WA := Lib.hid (wf_small (a := a) ha0 ha1)
            clear hd hd4 ha hfa hqc
            go_wp2_with (refine wpList_lookupI rfl (.tmp 129) (.tmp 130) rfl mb dn mf rfl HMD.out a rfl WA.out _ HFA.out ?_)
            go_roundw
            case rel => exact ⟨k + 1, by omega, by go_num, HD4.out⟩
            case measure => simp [intOf]; omega
           ·obtain rfl : on = k := by omega
            rw [mixA_all _ HOL.out] at hd
            obtain ⟨hext, hbx, hog, hor, hoo, -, -⟩ := hd
            have hz := HZ.out.ext ((X1.out.trans X12.out).trans hext)
            have m0 := (hbx.cell 0).trans rfl; have m1 := (hbx.cell 1).trans rfl; have m2 := (hbx.cell 2).trans rfl; have m3 := (hbx.cell 3).trans rfl
            have n0 := (hz.cell 0).trans rfl; have n1 := (hz.cell 1).trans rfl; have n2 := (hz.cell 2).trans rfl; have n3 := (hz.cell 3).trans rfl
            simp only [List.getElem?_cons_zero, List.getElem?_cons_succ] at m0 m1 m2 m3 n0 n1 n2 n3
            have fz := hz.free
            have hzlt : (w.heap.size + 1) < w2.heap.size := (HZ.out.ext (X1.out.trans X12.out)).lt
            have hne : b7 ≠ w.heap.size + 1 := by have := HB7.out; omega
            obtain ⟨w9, hw9⟩ : ∃ w9, w9 = (((wr.setCell ⟨w.heap.size + 1, 0, none⟩ (I i)).setCell ⟨w.heap.size + 1, 1, none⟩ (.slice A dn c)).setCell ⟨w.heap.size + 1, 2, none⟩ (.slice A60 rn c60)).setCell ⟨w.heap.size + 1, 3, none⟩ (.slice A63 on c63) := ⟨_, rfl⟩
            have hk9 : Box w9 (w.heap.size + 1) 39 [I i, .slice A dn c, .slice A60 rn c60, .slice A63 on c63] := by rw [hw9]; exact (((hz.set 0 (I i)).set 1 (.slice A dn c)).set 2 (.slice A60 rn c60)).set 3 (.slice A63 on c63)
            have ar := hz.apart hor (by decide); have ao := hz.apart hoo (by decide)
            have hr9 : w9.ownsRow w2.heap.size 79 2 (.slice A60 rn c60) rn (storeCs RR) := by rw [hw9]; exact own_set (own_set (own_set (own_set hor ar _ _) ar _ _) ar _ _) ar _ _
            have ho9 : w9.ownsRow w2.heap.size 3 1 (.slice A63 on c63) on ((N.outs.map (valI (toM N))).map I) := by rw [hw9]; exact own_set (own_set (own_set (own_set hoo ao _ _) ao _ _) ao _ _) ao _ _
            have hg9 : OwnG w9 w2.heap.size (.slice A dn c) GG vs := by
             rw [hw9]
             exact (((hog.box hz 0 (I i)).box (hz.set 0 (I i)) 1 (.slice A dn c)).box ((hz.set 0 (I i)).set 1 (.slice A dn c)) 2 (.slice A60 rn c60)).box (((hz.set 0 (I i)).set 1 (.slice A dn c)).set 2 (.slice A60 rn c60)) 3 (.slice A63 on c63)
            have hx9 : Ext w w9 := by
             have h0 : Ext w wr := ((HX.out.trans X1.out).trans X12.out).trans hext
             rw [hw9]; exact (((h0.setCell (p := ⟨w.heap.size + 1, 0, none⟩) (Nat.le_succ _) _).setCell (p := ⟨w.heap.size + 1, 1, none⟩) (Nat.le_succ _) _).setCell (p := ⟨w.heap.size + 1, 2, none⟩) (Nat.le_succ _) _).setCell (p := ⟨w.heap.size + 1, 3, none⟩) (Nat.le_succ _) _
            have hno : NetO w9 w2.heap.size i A dn c A60 rn c60 A63 on c63 (dropN N) vs := ⟨HIN.out, by rw [HHD.out, List.length_map]; exact HHL.out, by rw [← HGG.out]; exact hg9, by have := hr9; rw [HRR.out] at this; exact this, ho9⟩
            have HNO := Lib.hid hno; have HX9 := Lib.hid hx9; have HK9 := Lib.hid hk9; have HW9 := Lib.hid hw9
            clear hog hbx hor hoo hz hw9 hk9 ar ao hr9 ho9 hg9 hx9 hno hext hzlt
            go_wp2
            rw [← HW9.out]
            refine bodyPost_ret (v := Pr (netV i A dn c A60 rn c60 A63 on c63) (I 0)) ?_ rfl ⟨i, A, dn, c, A60, rn, c60, A63, on, c63, vs, rfl, HNO.out.base_le (HX.out.trans (X1.out.trans X12.out)).size, HX9.out⟩
            have q0 := (HK9.out.cell 0).trans rfl; have q1 := (HK9.out.cell 1).trans rfl; have q2 := (HK9.out.cell 2).trans rfl; have q3 := (HK9.out.cell 3).trans rfl
            simp only [List.getElem?_cons_zero, List.getElem?_cons_succ] at q0 q1 q2 q3
            clear HNO HX9 HK9 HW9 m0 m1 m2 m3 n0 n1 n2 n3 fz
            simp [results, Try.results21, go_sem, q0, q1, q2, q3]
 ·have hDR : dropR N = zeroN := by unfold dropR; rw [if_neg hc]
  rw [hDR]
  have hnz : (checkN N != 0) = true := by simpa using hc
  have hck := netCheck_any i GA gn gc RA rn rc OA on oc N W HN.out
  generalize checkN N = E at *
  have CK := Lib.hid hck
  clear hc hgl hrl hol hin hck hDR
  go_enter Try.func21, Try.ntmps21
  go_wp2_with fail
  rw [← HW.out]
  refine CK.out.mono ?_; rintro e w1 ⟨rfl, x1⟩
  have hz := HZ.out.ext x1
  have n0 := (hz.cell 0).trans rfl; have n1 := (hz.cell 1).trans rfl; have n2 := (hz.cell 2).trans rfl; have n3 := (hz.cell 3).trans rfl
  simp only [List.getElem?_cons_zero, List.getElem?_cons_succ] at n0 n1 n2 n3
  have fz := hz.free
  obtain ⟨w9, hw9⟩ : ∃ w9, w9 = (((w1.setCell ⟨w.heap.size + 1, 0, none⟩ (I 0)).setCell ⟨w.heap.size + 1, 1, none⟩ (.slice none 0 0)).setCell ⟨w.heap.size + 1, 2, none⟩ (.slice none 0 0)).setCell ⟨w.heap.size + 1, 3, none⟩ (.slice none 0 0) := ⟨_, rfl⟩
  have hk9 : Box w9 (w.heap.size + 1) 39 [I 0, .slice none 0 0, .slice none 0 0, .slice none 0 0] := by rw [hw9]; exact (((hz.set 0 (I 0)).set 1 (.slice none 0 0)).set 2 (.slice none 0 0)).set 3 (.slice none 0 0)
  have hx9 : Ext w w9 := by
   have h0 : Ext w w1 := HX.out.trans x1
   rw [hw9]; exact (((h0.setCell (p := ⟨w.heap.size + 1, 0, none⟩) (Nat.le_succ _) _).setCell (p := ⟨w.heap.size + 1, 1, none⟩) (Nat.le_succ _) _).setCell (p := ⟨w.heap.size + 1, 2, none⟩) (Nat.le_succ _) _).setCell (p := ⟨w.heap.size + 1, 3, none⟩) (Nat.le_succ _) _
  have HX9 := Lib.hid hx9; have HK9 := Lib.hid hk9; have HW9 := Lib.hid hw9
  clear hz hw9 hk9 hx9 x1 CK
  go_wp2
  rw [← HW9.out]
  refine bodyPost_ret (v := Pr (netV 0 none 0 0 none 0 0 none 0 0) (I E)) ?_ rfl ⟨0, none, 0, 0, none, 0, 0, none, 0, 0, [], rfl, NetO.zero _ _, HX9.out⟩
  have q0 := (HK9.out.cell 0).trans rfl; have q1 := (HK9.out.cell 1).trans rfl; have q2 := (HK9.out.cell 2).trans rfl; have q3 := (HK9.out.cell 3).trans rfl
  simp only [List.getElem?_cons_zero, List.getElem?_cons_succ] at q0 q1 q2 q3
  clear HX9 HK9 HW9 n0 n1 n2 n3 fz
  simp [results, Try.results21, go_sem, q0, q1, q2, q3]
end
end Go.Proofs.Ytlafiddfplhafaa
/- Run of pack, by the program and by the reference. -/
namespace Go.Proofs.Ytlafiddfplhafaa
set_option linter.unusedVariables false
set_option linter.unusedSimpArgs false
open Go.RowKit
def prunE (N : NetM) (rows : List (List (BitVec 64))) : Int := if (orderV N).2 ≠ 0 then (orderV N).2 else if 60 < rows.length then 2 else if rows.any (badRow N.ins) then 1 else 0
def prunV (N : NetM) (rows : List (List (BitVec 64))) : List (List (BitVec 64)) := if prunE N rows = 0 then runW N (firstW N) rows else []
/-- What Run tells: rows, error. -/
def PRunE (w w' : World) (e : Ending) (x : Int) (q : List (List (BitVec 64))) : Prop :=
  ∃ vr vs, e = .returned (Pr vr (I x)) ∧ OwnRowsF U 54 55 w' w.heap.size vr q vs ∧ Ext w w'
structure PRunSt (N : NetM) (rows : List (List (BitVec 64))) (k : Nat) (r : List (BitVec 64)) (out : List (List (BitVec 64))) : Prop where
  eqn : runW N (firstW N) rows = out ++ runW N r (rows.drop k)
  len : r.length = N.regs.length
  ol : out.length = k
theorem PRunSt.start (N : NetM) (rows : List (List (BitVec 64))) : PRunSt N rows 0 (firstW N) [] := ⟨by simp, by simp [firstW], rfl⟩
theorem PRunSt.next {N : NetM} {l : List Int} (hO : orderM N.gates = some l) {rows : List (List (BitVec 64))} {k : Nat} {r : List (BitVec 64)} {out : List (List (BitVec 64))} (h : PRunSt N rows k r out) {x : List (BitVec 64)} (hx : rows.drop k = x :: rows.drop (k + 1)) :
    PRunSt N rows (k + 1) (playW N r x).2 (out ++ [(playW N r x).1]) := ⟨by rw [h.eqn, hx, runW]; simp, (play_len hO r x).2, by simp [h.ol]⟩
theorem PRunSt.done {N : NetM} {rows : List (List (BitVec 64))} {r : List (BitVec 64)} {out : List (List (BitVec 64))} (h : PRunSt N rows rows.length r out) : runW N (firstW N) rows = out := by
  rw [h.eqn, List.drop_length, runW, List.append_nil]
theorem firstW_next {N : NetM} {k : Nat} {r : StoreM} (h : N.regs[k]? = some r) : ((firstW { N with regs := N.regs.take (k + 1) }).map U) = (firstW { N with regs := N.regs.take k }).map U ++ [U (if r.fst then BitVec.allOnes 64 else 0#64)] := by
  unfold firstW; rw [take_next (fun r : StoreM => if r.fst then BitVec.allOnes 64 else 0#64) N.regs h, List.map_append]; rfl
theorem tab_words : (Try.prog.info? 54).map (fun i => (i.zero, i.size, i.bytes)) = some (some (.slice none 0 0), 1, 24) := by kernel_rfl
theorem firstM_at {N : NetM} {k : Nat} {r : StoreM} (h : N.regs[k]? = some r) : (firstM N)[k]? = some (if r.fst then 1 else 0) := by unfold firstM; rw [List.getElem?_map, h]; rfl
theorem own_ne {w : World} {base : Nat} {e : TypeId} {size n c : Nat} {A : Option Addr} {xs : List Value} (h : w.ownsRow base e size (.slice A n c) n xs) {g : Nat} (hg : g < base) : ∀ p, A = some p → 0 < n → p.block ≠ g := by
  intro p e1 _ e2
  subst e1
  have := (h.lt p.block rfl).1
  omega
section
variable (i : Int) (GA : Option Addr) (gn gc : Nat) (RA : Option Addr) (rn rc : Nat) (OA : Option Addr) (on oc : Nat) (N : NetM) (A : Option Addr) (n c : Nat) (rows : List (List (BitVec 64))) (w : World)
set_option maxRecDepth 100000 in
set_option maxHeartbeats 8000000 in
theorem packRun_any (h : NetC w i GA gn gc RA rn rc OA on oc N) (hl : SlRowsF U w A n rows) (hn : n ≤ maxLen) :
    Calls Try.prog 22 #[netV i GA gn gc RA rn rc OA on oc, .slice A n c] w fun e w' => PRunE w w' e (prunE N rows) (prunV N rows) := by
  have hgl : N.gates.length = gn := h.gates.1
  have hrl : N.regs.length = rn := h.regs.1
  have hol : N.outs.length = on := h.outs.len
  have hrows := hl.1; have hin := h.ins
  obtain ⟨W, hW⟩ : ∃ W, W = w.alloc (.cells #[I i, .slice GA gn gc, .slice RA rn rc, .slice OA on oc] 39) := ⟨_, rfl⟩
  have hxW : Ext w W := by rw [hW]; exact (Ext.refl _).alloc _
  have hbox : NetBox W w.heap.size i GA gn gc RA rn rc OA on oc := by rw [hW]; exact NetBox.new w i GA gn gc RA rn rc OA on oc _
  have HN := Lib.hid (h.keep hxW.keeps); have HBox := Lib.hid hbox; have HW := Lib.hid hW; have HX := Lib.hid hxW
  have HL := Lib.hid (hl.keep hxW.keeps)
  have HNM := Lib.hid hn
  unfold maxLen at hn
  clear h hl hW hxW hbox
  by_cases h0 : (orderV N).2 = 0
  · obtain ⟨ok, hc, l, hO, hV⟩ := orderV_ok h0
    have hgn : gn ≤ 200 := by have := ok.gl; omega
    have hr20 : rn ≤ 20 := by have := ok.rl; omega
    have hlay := lay_good i GA gn gc RA rn rc OA on oc N w.heap.size W HBox.out HN.out l hV hgn
    have HLAY := Lib.hid hlay; have HOK := Lib.hid ok; have HO := Lib.hid hO
    have H0 := Lib.hid h0
    clear hlay ok hO hV hc h0
    by_cases h60 : 60 < n
    · have HRE : Hid (prunE N rows = 2) := by unfold Hid prunE; rw [if_neg (by simp [H0.out]), if_pos (by omega)]
      have HRV : Hid (prunV N rows = []) := by unfold Hid prunV; rw [HRE.out]; rfl
      clear hgl hrl hol hrows hin
      go_enter Try.func22, Try.ntmps22
      go_wp2_with fail
      rw [← HW.out]
      refine HLAY.out.mono ?_; rintro e w1 ⟨bb, vb, LA, lc, rfl, hB, x1⟩
      have X1 := Lib.hid x1; clear hB x1
      go_wp2
      exact bodyPost_ret (v := Pr (.slice none 0 0) (I 2)) (by simp [results, Try.results22, go_sem]) rfl ⟨_, [], by rw [HRE.out], by rw [HRV.out]; exact OwnRowsF.nil _ _ _ _ _, HX.out.trans X1.out⟩
    · cases hb : rows.any (badRow N.ins) with
      | true =>
        have HRE : Hid (prunE N rows = 1) := by unfold Hid prunE; rw [if_neg (by simp [H0.out]), if_neg (by omega), if_pos hb]
        have HRV : Hid (prunV N rows = []) := by unfold Hid prunV; rw [HRE.out]; rfl
        have HB := Lib.hid hb
        obtain rfl : i = N.ins := hin
        clear hgl hrl hol hrows hb
        go_enter Try.func22, Try.ntmps22
        go_wp2_with fail
        rw [← HW.out]
        refine HLAY.out.mono ?_; rintro e w1 ⟨bb, vb, LA, lc, rfl, hB, x1⟩
        have X1 := Lib.hid x1; clear hB x1
        go_wp2_with fail
        refine (containsRows_any A n c rows _ _ (badRow N.ins) w1 (HL.out.keep X1.out.keeps) HNM.out (asks_run1 w.heap.size N.ins w1 (HBox.out.keep X1.out.keeps).1)).mono ?_; rintro e w' ⟨rfl, rfl⟩; rw [HB.out]
        go_wp2
        exact bodyPost_ret (v := Pr (.slice none 0 0) (I 1)) (by simp [results, Try.results22, go_sem]) rfl ⟨_, [], by rw [HRE.out], by rw [HRV.out]; exact OwnRowsF.nil _ _ _ _ _, HX.out.trans X1.out⟩
      | false =>
        have HRE : Hid (prunE N rows = 0) := by unfold Hid prunE; rw [if_neg (by simp [H0.out]), if_neg (by omega), if_neg (by simp [hb])]
        have HRV : Hid (prunV N rows = runW N (firstW N) rows) := by unfold Hid prunV; rw [HRE.out]; rfl
        have hall : ∀ x ∈ rows, (x.length : Int) = N.ins := fun x hx => by have := List.any_eq_false.1 hb x hx; simpa [badRow] using this
        have HB := Lib.hid hb; have HALL := Lib.hid hall
        obtain rfl : i = N.ins := hin
        have HRL := Lib.hid hrl; have HOL := Lib.hid hol; have HROWS := Lib.hid hrows
        clear hgl hrl hol hrows hb hall
        go_enter Try.func22, Try.ntmps22
        go_wp2_with fail
        rw [← HW.out]
        refine HLAY.out.mono ?_; rintro e w1 ⟨bb, vb, LA, lc, rfl, hB, x1⟩
        have hbb : bb < w1.heap.size := lt_of_cell hB.c0
        have hvb : vb < w1.heap.size := (hB.row.lt vb rfl).2
        have HLA := Lib.hid hB.la
        have HBB := Lib.hid hbb; have HVB := Lib.hid hvb
        have X1 := Lib.hid x1; have HBD := Lib.hid hB; clear hB x1 HLAY hbb hvb
        go_wp2_with fail
        refine (containsRows_any A n c rows _ _ (badRow N.ins) w1 (HL.out.keep X1.out.keeps) HNM.out (asks_run1 w.heap.size N.ins w1 (HBox.out.keep X1.out.keeps).1)).mono ?_; rintro e w' ⟨rfl, rfl⟩; rw [HB.out]
        obtain ⟨q0, q1, q2, q3⟩ := HBox.out.keep X1.out.keeps
        go_wp2_with fail
        refine (first_any N.ins GA gn gc RA rn rc OA on oc N w1 (HN.out.keep X1.out.keeps) hr20).mono ?_; rintro e w2 ⟨v2, rfl, hown2, x2⟩
        obtain ⟨FA, fc, rfl, -, -, hfs⟩ := own_sl hown2
        have HFS := Lib.hid hfs; have X2 := Lib.hid x2
        clear hown2 hfs x2 q0 q1 q2 q3
        go_wp2_with fail
        go_loopw [8, 31] (fun s j wr => ∃ (k : Nat), k ≤ rn ∧ j = .int .i64 k ∧ Ext w2 wr ∧ wr.ownsRow w2.heap.size 55 1 s k ((firstW { N with regs := N.regs.take k }).map U)) (fun _ j _ => rn - (intOf j).toNat)
        case atStart => exact ⟨0, Nat.zero_le _, rfl, Ext.refl _, World.ownsRow_nil _ _ _ _⟩
        case round =>
          obtain ⟨k, hk, rfl, hext, hown⟩ := hrel
          by_cases hlt : k < rn
          · obtain ⟨r, hr⟩ : ∃ r, N.regs[k]? = some r := ⟨_, List.getElem?_eq_getElem (by rw [HRL.out]; exact hlt)⟩
            obtain ⟨b, off, x, rfl, hc0, hx⟩ := HFS.out.at_ hlt
            have hcx := hext.keeps _ _ hc0
            have hfm := firstM_at hr
            rw [hx] at hfm
            obtain rfl : x = if r.fst then 1 else 0 := Option.some.inj hfm
            have hnx := firstW_next hr
            have HNX := Lib.hid hnx; have HOWN := Lib.hid hown; have HE := Lib.hid hext
            have HX12 := Lib.hid (X2.out.trans hext)
            clear hnx hown hext hx hc0 hfm hr
            cases hf : r.fst
            all_goals
              rw [hf] at hcx HNX
              simp only [if_true, Bool.false_eq_true, if_false] at hcx HNX
              go_wp2_with (at_builtin; refine wpList_pushK rfl (.tmp 35) (.tmp 39) 54 55 rfl tab_u64 Try.underlying54 rfl (by omega) w2.heap.size wr HE.out.size _ k _ rfl HOWN.out [_] rfl rfl _ rfl rfl (by simp [Value.oneCell']) (by unfold maxLen; omega) (by omega) ?_; intro v' w3 hown3 hg3)
              go_roundw
              case rel => exact ⟨k + 1, by omega, by go_num, Below.grown HE.out hg3 HE.out.size (fun b hb => (HOWN.out.lt b hb).1), by rw [HNX.out]; exact hown3⟩
              case measure => simp [intOf]; omega
          · obtain rfl : k = rn := by omega
            have ht : N.regs.take k = N.regs := List.take_of_length_le (by rw [HRL.out]; exact Nat.le_refl _)
            rw [ht] at hown
            have hown' : wr.ownsRow w2.heap.size 55 1 u8 k ((firstW N).map U) := hown
            have HR0 := Lib.hid (own_base hown' X2.out.size); have X3 := Lib.hid (X2.out.trans hext)
            have HST := Lib.hid (PRunSt.start N rows)
            obtain ⟨w3, hw3⟩ : ∃ q, q = wr := ⟨_, rfl⟩
            subst hw3
            have HBD3 := Lib.hid (HBD.out.ext X3.out)
            clear hown hown' ht hext HFS hlt
            go_wp2_with fail
            go_loopw [8, 11, 44] (fun sr so j wr => ∃ (q : Nat) (r : List (BitVec 64)) (out : List (List (BitVec 64))) (vs : List Value), q ≤ n ∧ j = .int .i64 q ∧ Aside vb vb w1 wr ∧ wr.ownsRow w1.heap.size 55 1 sr k (r.map U) ∧ OwnRowsF U 54 55 wr w1.heap.size so out vs ∧
              (∃ v', Board wr W.heap.size bb w.heap.size vb LA lc gn l v') ∧ PRunSt N rows q r out) (fun _ _ j _ => n - (intOf j).toNat)
            case atStart => exact ⟨0, firstW N, [], [], Nat.zero_le _, rfl, (Aside.refl _ _ _).more X3.out, HR0.out, OwnRowsF.nil _ _ _ _ _, ⟨_, HBD3.out⟩, HST.out⟩
            case round =>
              obtain ⟨q, r, out, vs, hq, rfl, has, hreg, hrows, ⟨v', hbd⟩, hst⟩ := hrel
              by_cases hlt : q < n
              · have hx0 : Ext W wr := has.ext X1.out HBD.out.vbase HBD.out.vbase
                obtain ⟨b, off, A', c', x, rfl, hcx, hsx, -, -, hd, hxm⟩ := (HL.out.keep hx0.keeps).next hlt
                obtain ⟨b2, off2, A2, c2, x2', e2, hcx2, hsx2, -, -, hd2, hxm2⟩ := HL.out.next hlt
                have hsW : Sl W A' x.length (x.map U) := by
                  have hk2 := hx0.keeps _ _ hcx2
                  injection e2 with e2; injection e2 with e21 e22
                  subst e21; subst e22
                  rw [hxm] at hxm2; obtain rfl := Option.some.inj hxm2
                  rw [hcx] at hk2; injection hk2 with hk2; injection hk2 with hk2 _ _
                  subst hk2; exact hsx2
                have hxl := HALL.out x (List.mem_of_getElem? hxm)
                obtain ⟨RB, pc, rfl, -, -, hsr⟩ := own_sl hreg
                have hpl := play_len HO.out r x
                rw [HOL.out, HRL.out] at hpl
                have hnext := hst.next HO.out hd
                have hql : out.length ≤ 60 := by rw [hst.ol]; omega
                have HS := Lib.hid hsW; have HXL := Lib.hid hxl; have HSR := Lib.hid hsr; have HREG := Lib.hid hreg; have HRW := Lib.hid hrows; have HAS := Lib.hid has; have HB2 := Lib.hid hbd; have HNX := Lib.hid hnext; have HPL := Lib.hid hpl; have HX0 := Lib.hid hx0
                clear e2 hcx2 hsx2 hd2 hxm2 hsx hd hxm hsW hxl hsr hreg hrows has hbd hst hnext hpl hx0
                go_wp2_with fail
                refine (playWord_any N.ins GA gn gc RA k rc OA on oc N w.heap.size W wr W.heap.size bb vb LA lc l v' RB pc A' x.length c' r x HX0.out (Nat.le_refl _) HBox.out HN.out HB2.out HOK.out HO.out HSR.out (own_ne HREG.out HVB.out) HS.out HXL.out).mono ?_
                rintro e w4 ⟨vo, vn, v4, rfl, ho, hn4, hB4, ha4⟩
                obtain ⟨A6, c6, rfl, -, -, -⟩ := own_sl ho
                have hsz4 : w1.heap.size ≤ wr.heap.size := HAS.out.size
                have hro : OwnRowsF U 54 55 w4 w1.heap.size u11 out vs := HRW.out.aside HVB.out ha4
                have HO4 := Lib.hid (own_base ho hsz4); have HN4 := Lib.hid (own_base hn4 hsz4); have HB4 := Lib.hid hB4; have HA4 := Lib.hid (HAS.out.trans ha4); have HRO := Lib.hid hro
                clear ho hn4 hB4 ha4 hro hsz4 hcx
                go_wp2_with (at_builtin; refine wpList_pushK rfl (.tmp 55) (.tmp 57) 49 54 rfl tab_words Try.underlying49 rfl (by omega) w1.heap.size w4 HA4.out.size _ out.length vs rfl HRO.out.row [.slice A6 on c6] rfl rfl _ rfl rfl (by simp [Value.oneCell']) (by unfold maxLen; omega) (by omega) ?_; intro v5 w5 hown5 hg5)
                go_roundw
                case rel => exact ⟨q + 1, (playW N r x).2, out ++ [(playW N r x).1], vs ++ [.slice A6 on c6], by omega, by go_num, HA4.out.grown hg5 (fun b hb => .inr (HRO.out.row.lt b hb).1), HN4.out.kept hg5 (own_types HN4.out HRO.out.row (by decide)), HRO.out.push (by decide) (by rw [HPL.out.1]; exact HO4.out) hown5 hg5, ⟨v4, HB4.out.kept hg5 HBB.out HVB.out HLA.out (fun b hb => (HRO.out.row.lt b hb).1)⟩, HNX.out⟩
                case measure => simp [intOf]; omega
              · obtain rfl : q = n := by omega
                have hrun : runW N (firstW N) rows = out := by have := hst; rw [← HROWS.out] at this; exact this.done
                have HRUN := Lib.hid hrun; have HRW := Lib.hid hrows
                have hx0 : Ext W wr := has.ext X1.out HBD.out.vbase HBD.out.vbase
                have HX0 := Lib.hid hx0
                clear hrun hrows hx0 has hreg hbd hst
                go_wp2
                exact bodyPost_ret (v := Pr u11 (I 0)) (by simp [results, Try.results22, go_sem]) rfl ⟨_, vs, by rw [HRE.out], by rw [HRV.out, HRUN.out]; exact HRW.out.base_le (HX.out.trans X1.out).size, HX.out.trans HX0.out⟩
  · have hlay := lay_bad i GA gn gc RA rn rc OA on oc N w.heap.size W HBox.out HN.out h0
    have HRE : Hid (prunE N rows = (orderV N).2) := by unfold Hid prunE; rw [if_pos h0]
    have HRV : Hid (prunV N rows = []) := by unfold Hid prunV; rw [HRE.out, if_neg h0]
    have g : ((orderV N).2 != 0) = true := by simpa using h0
    generalize (orderV N).2 = E at *
    have HLAY := Lib.hid hlay
    clear hlay h0 hgl hrl hol hrows hin
    go_enter Try.func22, Try.ntmps22
    go_wp2_with fail
    rw [← HW.out]
    refine HLAY.out.mono ?_; rintro e w1 ⟨rfl, x1⟩
    have X1 := Lib.hid x1
    clear x1 HLAY
    go_wp2
    exact bodyPost_ret (v := Pr (.slice none 0 0) (I E)) (by simp [results, Try.results22, go_sem]) rfl ⟨_, [], by rw [HRE.out], by rw [HRV.out]; exact OwnRowsF.nil _ _ _ _ _, HX.out.trans X1.out⟩
end
end Go.Proofs.Ytlafiddfplhafaa
/- The body of ForgeSwept, from the contracts. -/
namespace Go.Proofs.Ytlafiddfplhafaa
set_option linter.unusedVariables false
set_option linter.unusedSimpArgs false
open Go.RowKit
/-- When Run of words answers, each lane is a run of its own. -/
theorem flane_run {N : NetM} {rows : List (List (BitVec 64))} (h : prunE N rows = 0) {k : Nat} (hk : k < 64) :
  (∀ r ∈ rows, r.length ≤ 3) ∧ rows.length ≤ 60 ∧ (prunV N rows).length = rows.length ∧ runE N (rows.map (packX k)) = 0 ∧ (runV N (rows.map (packX k))).1 = (prunV N rows).map (laneI k) := by
 have hV : prunV N rows = runW N (firstW N) rows := by unfold prunV; rw [if_pos h]
 unfold prunE at h
 by_cases h0 : (orderV N).2 = 0
 ·rw [if_neg (by simp [h0])] at h
  obtain ⟨ok, hc, l, hO, -⟩ := orderV_ok h0
  by_cases h1 : 60 < rows.length
  ·rw [if_pos h1] at h; cases h
  ·rw [if_neg h1] at h
   by_cases h2 : rows.any (badRow N.ins) = true
   ·rw [if_pos h2] at h; cases h
   ·have hl : ∀ r ∈ rows, (r.length : Int) = N.ins := fun r hr => by
     by_cases e : badRow N.ins r = true
     ·exact absurd (List.any_eq_true.2 ⟨r, hr, e⟩) h2
     ·unfold badRow at e; simpa using e
    have hrun := run_lane ok hO hk rows (firstW N) hl
    rw [first_lane hk] at hrun
    have ht : timesM (rows.map (packX k)) N.ins.toNat = 0 := by
     unfold timesM
     rw [if_neg (by simp; omega), if_neg]
     intro e
     obtain ⟨x, hx, hb⟩ := List.any_eq_true.1 e
     obtain ⟨r, hr, rfl⟩ := List.mem_map.1 hx
     obtain ⟨p1, p2⟩ := packX_range k r
     have := hl r hr
     rw [show r.length = N.ins.toNat by omega] at p2
     unfold badTime at hb
     simp only [Bool.or_eq_true, decide_eq_true_eq] at hb
     omega
    have hE : runE N (rows.map (packX k)) = 0 := by
     unfold runE
     rw [if_neg (by simp [hc]), if_neg (by simp [ht]), hrun]; rfl
    refine ⟨fun r hr => by have := hl r hr; have := ok.ins3; omega, by omega, by rw [hV, runW_len], hE, ?_⟩
    unfold runV
    rw [if_pos hE, hrun, hV]; rfl
 ·rw [if_pos h0] at h; exact absurd h h0
theorem fmap_nextI {l : List Int} {k : Nat} {x : Int} (h : l[k]? = some x) : (l.take (k + 1)).map I = (l.take k).map I ++ [I x] := by rw [List.take_add_one, h]; simp
theorem fswept_run {N : NetM} {l : List Int} (h : runE N l = 0) : runV (dropN (foldN N)) l = runV N l := by
 obtain ⟨h1, h2, q, hq⟩ := runE_ok h
 have ok := checkN_ok h1
 have okd := dropN_ok (foldN_ok ok)
 have hr := sweep_run ok l (firstM N) q (by simp [firstM]) hq
 have hf : firstM (dropN (foldN N)) = firstM N := by rw [drop_first, foldN_first]
 have he : runE (dropN (foldN N)) l = 0 := by
  unfold runE
  rw [if_neg (by simp [okd.check]), hf, hr]
  rw [show (dropN (foldN N)).ins = N.ins from rfl, if_neg (by simp [h2])]
  rfl
 unfold runV
 rw [if_pos he, if_pos h, hf, hr, hq]
theorem swept_lane {p : List PNode} (hc : checkP p = 0) (F : NetFacts p) {rows : List (List (BitVec 64))} (h : prunE (dropN (foldN (netR p))) rows = 0) {k : Nat} (hk : k < 64) :
  (∀ r ∈ rows, r.length ≤ 3) ∧ rows.length ≤ 60 ∧ (prunV (dropN (foldN (netR p))) rows).length = rows.length ∧ runErr p (rows.map (packX k)) = 0 ∧ runRows p (rows.map (packX k)) = (prunV (dropN (foldN (netR p))) rows).map (laneI k) := by
 obtain ⟨h1, h2, h3, h4, h5⟩ := flane_run h hk
 have ht : timesM (rows.map (packX k)) 3 = 0 := by
  have := (runE_ok h4).2.1
  rw [show (dropN (foldN (netR p))).ins = (netR p).ins from rfl, F.ins] at this
  exact this
 have hr0 : runE (netR p) (rows.map (packX k)) = 0 := by rw [F.runE]; exact ht
 rw [fswept_run hr0, F.runV _ ht] at h5
 exact ⟨h1, h2, h3, by unfold runErr; rw [if_pos hc]; exact ht, h5⟩
theorem swept_not5 {p : List PNode} (F : NetFacts p) (rows : List (List (BitVec 64))) : prunE (dropN (foldN (netR p))) rows ≠ 5 := by
 obtain ⟨l, hl⟩ := F.swept
 have h0 : (orderV (dropN (foldN (netR p)))).2 = 0 := by
  unfold orderV
  rw [if_neg (by simp [(dropN_ok (foldN_ok F.ok)).check]), hl]
 unfold prunE
 rw [if_neg (by simp [h0])]
 split
 ·decide
 ·split <;> decide
section
variable (PA : Option Addr) (pn pc : Nat) (p : List PNode)
set_option maxRecDepth 100000 in
set_option maxHeartbeats 16000000 in
theorem forgeSwept_walk (A : Option Addr) (n c : Nat) (rows : List (List (BitVec 64))) (kk : Int) (w : World) (hp : SlN w PA pn p) (hpn : pn ≤ maxLen) (hl : SlRowsF U w A n rows) (hn : n ≤ maxLen) (hk1 : -9223372036854775808 ≤ kk) (hk2 : kk ≤ 9223372036854775807) :
  Calls Try.prog 6 #[.slice PA pn pc, .slice A n c, I kk] w fun e w' => e = .returned (.bool true) ∧ Ext w w' := by
 have HP := Lib.hid hp; have HNM := Lib.hid hpn
 have HL := Lib.hid hl
 have hrl : rows.length = n := hl.1
 obtain ⟨k, hk, hkc⟩ : ∃ k : Nat, k < 64 ∧ chooseM kk 64 = (k : Int) := by
  refine ⟨(chooseM kk 64).toNat, ?_, ?_⟩ <;> unfold chooseM <;> omega
 have hch : ∀ Q, Calls Try.prog 23 #[I kk, .int .i64 64] Q fun e w' => e = .returned (I (k : Nat)) ∧ Q = w' := fun Q => by rw [← hkc]; exact choose_any kk 64 Q (by omega) (by omega) hk1 hk2
 have CH := Lib.hid hch
 clear hp hpn hl hkc hch
 go_enter Try.func6, Try.ntmps6
 go_wp2_with fail
 refine (net_any PA pn pc p w HP.out HNM.out).mono ?_; rintro e w0 ⟨i, GA, gn, gc, RA, rn, rc, OA, on, oc, rfl, hN, x0⟩
 obtain ⟨wf, hwf, hxf, hbf⟩ := netbox_mk w0 i GA gn gc RA rn rc OA on oc
 have HN := Lib.hid (hN.keep hxf.keeps); have HWF := Lib.hid hwf; have XF := Lib.hid (x0.trans hxf)
 clear hN x0 hwf hxf
 by_cases hc : checkP p = 0
 ·have F := net_facts hc
  have HF := Lib.hid F; have HCP := Lib.hid hc
  rw [hc]
  obtain ⟨q0, q1, q2, q3⟩ := hbf
  rw [HWF.out] at q0 q1 q2 q3
  clear F hc
  go_wp2_with fail
  rw [← HWF.out]
  clear q0 q1 q2 q3
  refine (fold_any i GA gn gc RA rn rc OA on oc (netR p) wf HN.out).mono ?_; rintro e w2 ⟨i2, GA2, gn2, gc2, RA2, rn2, rc2, OA2, on2, oc2, vs2, rfl, o2, x2⟩
  rw [HF.out.check]
  rw [show foldR (netR p) = foldN (netR p) by unfold foldR; rw [if_pos HF.out.check]] at o2
  obtain ⟨wg, hwg, hxg, hbg⟩ := netbox_mk w2 i2 GA2 gn2 gc2 RA2 rn2 rc2 OA2 on2 oc2
  have XG := Lib.hid (XF.out.trans (x2.trans hxg)); have HG := Lib.hid (o2.netC.keep hxg.keeps); have HWG := Lib.hid hwg
  rw [hwg] at hbg
  obtain ⟨q0, q1, q2, q3⟩ := hbg
  have HCF := Lib.hid (foldN_ok HF.out.ok).check
  clear o2 x2 hwg hxg HN XF HWF
  go_wp2_with fail
  rw [← HWG.out]
  clear q0 q1 q2 q3 HWG
  refine (drop_any i2 GA2 gn2 gc2 RA2 rn2 rc2 OA2 on2 oc2 (foldN (netR p)) wg HG.out).mono ?_; rintro e w3 ⟨i3, GA3, gn3, gc3, RA3, rn3, rc3', OA3, on3, oc3, vs3, rfl, o3, x3⟩
  rw [HCF.out]
  rw [show dropR (foldN (netR p)) = dropN (foldN (netR p)) by unfold dropR; rw [if_pos HCF.out]] at o3
  obtain ⟨wd, hwd, hxd, hbd⟩ := netbox_mk w3 i3 GA3 gn3 gc3 RA3 rn3 rc3' OA3 on3 oc3
  have XS := Lib.hid (XG.out.trans (x3.trans hxd)); have HD := Lib.hid (o3.netC.keep hxd.keeps); have HWD := Lib.hid hwd
  rw [hwd] at hbd
  obtain ⟨q0, q1, q2, q3⟩ := hbd
  clear o3 x3 hwd hxd HG XG
  go_wp2_with fail
  rw [← HWD.out]
  clear q0 q1 q2 q3 HWD
  refine (packRun_any i3 GA3 gn3 gc3 RA3 rn3 rc3' OA3 on3 oc3 (dropN (foldN (netR p))) A n c rows wd HD.out (HL.out.keep XS.out.keeps) hn).mono ?_; rintro e w1 ⟨vr, vs, rfl, o1, x1⟩
  obtain ⟨B, d, rfl, h1, h2, s1⟩ := o1.slice
  have X1 := Lib.hid x1; have S1 := Lib.hid s1
  by_cases he : prunE (dropN (foldN (netR p))) rows = 0
  ·obtain ⟨l3, l60, lV, hE, hR⟩ := swept_lane HCP.out HF.out he hk
   rw [he]
   generalize hV : prunV (dropN (foldN (netR p))) rows = V at *
   rw [hrl] at lV l60
   have L3 := Lib.hid l3; have LV := Lib.hid lV; have HE := Lib.hid hE; have HR := Lib.hid hR; have HRL := Lib.hid hrl
   have hd2 : V.length ≤ d := h1
   have hd3 : d ≤ 9223372036854775807 := h2
   clear he hV l3 lV hE hR x1 s1 o1 h1 h2 hrl HD
   rw [LV.out] at hd2
   go_wp2_with fail
   refine (CH.out w1).mono ?_; rintro e w1' ⟨rfl, rfl⟩
   rw [LV.out]
   go_wp2_with fail
   go_loopw [16, 17] (fun s j wr => ∃ (t : Nat), t ≤ n ∧ j = .int .i64 t ∧ Ext w1 wr ∧ wr.ownsRow w1.heap.size 3 1 s t (((rows.map (packX k)).take t).map I)) (fun _ j _ => n - (intOf j).toNat)
   case atStart => exact ⟨0, Nat.zero_le _, rfl, Ext.refl _, World.ownsRow_nil _ _ _ _⟩
   case round =>
    obtain ⟨t, ht, rfl, hext, hown⟩ := hrel
    by_cases hlt : t < n
    ·obtain ⟨b, off, A1, k1, r, rfl, hc0, hs, hr1, hr2, -, hrm⟩ := (HL.out.keep (XS.out.trans (X1.out.trans hext)).keeps).next hlt
     have hr3 := L3.out r (List.mem_of_getElem? hrm)
     have HS := Lib.hid hs; have HO := Lib.hid hown; have HXT := Lib.hid hext
     have HRM := Lib.hid hrm
     clear hs hr1 hr2 hown hext hrm
     go_wp2_with fail
     obtain ⟨wi, hwi⟩ : ∃ q, q = wr := ⟨_, rfl⟩
     go_loopw [18, 19] (fun a j wr => ∃ (q : Nat), q ≤ r.length ∧ j = .int .i64 ((q : Int) - 1) ∧ a = .int .i64 (packX k (r.drop q)) ∧ wi = wr) (fun _ j _ => (intOf j + 1).toNat)
     case atStart => exact ⟨r.length, Nat.le_refl _, by first | rfl | go_num | simp, by rw [List.drop_length]; rfl, hwi⟩
     case round =>
      obtain ⟨q, hq, rfl, rfl, hwr⟩ := hrel
      subst hwr
      subst hwi
      rcases q with _ | p
      ·have hxt : (rows.map (packX k))[t]? = some (packX k r) := by rw [List.getElem?_map, HRM.out]; rfl
       have HNX := Lib.hid (fmap_nextI hxt)
       rw [List.drop_zero]
       generalize packX k r = X at *
       clear hxt
       go_wp2_with (at_builtin; refine wpList_push rfl (.tmp 93) (.tmp 95) 23 3 rfl tab_int' Try.underlying23 rfl (by omega) w1 _ HXT.out _ t _ rfl HO.out [I X] rfl rfl rfl (by simp [Value.oneCell']) (by unfold maxLen; omega) (by omega) ?_; intro v' w2 hown2 hx3 _)
       go_roundw
       case rel => exact ⟨t + 1, by omega, by go_num, hx3, by rw [HNX.out]; exact hown2⟩
       case measure => simp [intOf]; omega
      ·have hpl : p < r.length := hq
       obtain ⟨b2, off2, x, rfl, hc2, hx⟩ := HS.out.at_ hpl
       have hpx : packX k (r.drop p) = 2 * packX k (r.drop (p + 1)) + bitI k x := by
        have hg : r.drop p = x :: r.drop (p + 1) := by
         rw [List.drop_eq_getElem_cons hpl]
         congr 1
         rw [List.getElem?_eq_getElem hpl] at hx; exact Option.some.inj hx
        rw [hg]; rfl
       have hX : 0 ≤ packX k (r.drop (p + 1)) ∧ packX k (r.drop (p + 1)) < 8 := by
        obtain ⟨h1, h2⟩ := packX_range k (r.drop (p + 1))
        have : (2 : Int) ^ (r.drop (p + 1)).length ≤ 2 ^ 3 := by
         have hd : (r.drop (p + 1)).length ≤ 3 := by rw [List.length_drop]; omega
         exact_mod_cast Nat.pow_le_pow_right (by omega) hd
        omega
       have HPX := Lib.hid hpx
       obtain ⟨hX0, hX8⟩ := hX
       have hand := uI_lane x k
       have hbt := bitI_01 k x
       have hwr : IntKind.i64.wrap (bitI k x) = bitI k x := IntWalk.i64_in _ (by rcases hbt with e | e <;> omega)
       rw [show (((p + 1 : Nat) : Int) - 1) = (p : Int) from by omega]
       clear hpx hx
       generalize packX k (r.drop (p + 1)) = X at *
       have hwx : IntKind.i64.wrap (2 * X) = 2 * X := IntWalk.i64_in _ (by omega)
       have hwy : IntKind.i64.wrap (2 * X + bitI k x) = 2 * X + bitI k x := IntWalk.i64_in _ (by rcases hbt with e | e <;> omega)
       go_wp2
       go_roundw
       case rel => exact ⟨p, by omega, by rw [HPX.out]; exact ⟨rfl, rfl, trivial⟩⟩
       case measure => simp [intOf]
    ·obtain rfl : n = t := by omega
     have ht2 : (rows.map (packX k)).take n = rows.map (packX k) := List.take_of_length_le (by rw [List.length_map, HRL.out]; exact Nat.le_refl _)
     rw [ht2] at hown
     obtain ⟨IA, ic, rfl, -, -, hs⟩ := own_sl hown
     have HS := Lib.hid hs
     have XA := Lib.hid (X1.out.trans hext); have SA := Lib.hid (S1.out.keep hext.keeps)
     clear hs hown hext ht2 S1
     go_wp2_with fail
     refine (frun_any PA pn pc p IA n ic (rows.map (packX k)) wr (HP.out.keep (XS.out.trans XA.out).keeps) HNM.out HS.out hn).mono ?_; rintro e w3 ⟨vz, vs', rfl, ho, x3⟩
     rw [HE.out]
     obtain ⟨Ar, rc3, rfl, hr1, hr2, hs3⟩ := ho.slice
     rw [HR.out] at hs3 hr1 ⊢
     rw [List.length_map, LV.out] at hs3 hr1 ⊢
     have XB := Lib.hid (XA.out.trans x3); have SB := Lib.hid (SA.out.keep x3.keeps); have SR := Lib.hid hs3
     have hrc2 : rc3 ≤ 9223372036854775807 := hr2
     have hrc1 : n ≤ rc3 := hr1
     clear ho x3 hs3 hr1 hr2 XA SA HS
     go_wp2_with fail
     go_loopw [22] (fun j wr => ∃ (t : Nat), t ≤ n ∧ j = .int .i64 t ∧ Ext w3 wr) (fun j _ => n - (intOf j).toNat)
     case atStart => exact ⟨0, Nat.zero_le _, rfl, Ext.refl _⟩
     case round =>
      obtain ⟨t, ht, rfl, hext⟩ := hrel
      by_cases hlt : t < n
      ·obtain ⟨b, off, A1, k1, x, rfl, hcx, hsx, l1, l2, -, hxm⟩ := SB.out.next (show t < V.length by rw [LV.out]; exact hlt)
       obtain ⟨b', off', A2, k2, eR, hcy, hsy, l3, l4⟩ := SR.out.2 t (laneI k x) (by rw [List.getElem?_map, hxm]; rfl)
       subst eR
       rw [lane_len] at hcy hsy l3
       have CX := Lib.hid hcx; have CY := Lib.hid hcy; have SX := Lib.hid hsx; have SY := Lib.hid hsy
       have CXW := Lib.hid (hext.keeps _ _ hcx); have CYW := Lib.hid (hext.keeps _ _ hcy); have HE1 := Lib.hid hext
       have hl2 : k1 ≤ 9223372036854775807 := l2
       have hl4 : k2 ≤ 9223372036854775807 := l4
       clear hcx hcy hsx hsy hext hxm l2 l4
       go_wp2_with fail
       refine wp_flow3 11 0 [isV (.slice (some ⟨b, off, none⟩) n d), isV (.int .i64 t), isV (.pointer (some ⟨b, off + t, none⟩)), isV (.slice A1 x.length k1), isV (.int .i64 x.length), isV (.slice (some ⟨b', off', none⟩) n rc3), isV (.int .i64 t), isV (.pointer (some ⟨b', off' + t, none⟩)), isV (.slice A2 x.length k2), isV (.int .i64 x.length), isV (.bool false)] (by kernel_rfl) rfl rfl (by kernel_rfl) (by kernel_rfl) ⟨isV_mono, isV_mono, isV_mono, isV_mono, isV_mono, isV_mono, isV_mono, isV_mono, isV_mono, isV_mono, isV_mono, trivial⟩ ?each ?rest
       case each =>
        refine .cons ?_ (.cons ?_ (.cons ?_ (.cons ?_ (.cons ?_ (.cons ?_ (.cons ?_ (.cons ?_ (.cons ?_ (.cons ?_ (.cons ?_ (.nil)))))))))))
        ·intro fa fw hx hs hb
         have s13 : fa.tmps[(13 : Nat)]? = some (.slice (some ⟨b, off, none⟩) n d) := (hb 13 (by kernel_rfl)).trans (by rfl)
         refine .inl ⟨wanted_free rfl, fun K hK => ?_⟩
         clear hs hb hx
         go_simp
         exact hK _ _ rfl (Ext.refl _)
        ·intro fa fw hx hs hb
         have s22 : fa.tmps[(22 : Nat)]? = some (.int .i64 t) := (hb 22 (by kernel_rfl)).trans (by rfl)
         refine .inl ⟨wanted_free rfl, fun K hK => ?_⟩
         clear hs hb hx
         go_simp
         exact hK _ _ rfl (Ext.refl _)
        ·intro fa fw hx hs hb
         obtain ⟨_, s118, rfl⟩ := hs 0 118 (by kernel_rfl) (by kernel_rfl)
         obtain ⟨_, s119, rfl⟩ := hs 1 119 (by kernel_rfl) (by kernel_rfl)
         refine .inl ⟨wanted_free rfl, fun K hK => ?_⟩
         clear hs hb hx
         go_simp
         exact hK _ _ rfl (Ext.refl _)
        ·intro fa fw hx hs hb
         obtain ⟨_, s120, rfl⟩ := hs 2 120 (by kernel_rfl) (by kernel_rfl)
         have c0 := hx.keeps _ _ CXW.out
         refine .inl ⟨wanted_free rfl, fun K hK => ?_⟩
         clear hs hb hx
         go_simp
         exact hK _ _ rfl (Ext.refl _)
        ·intro fa fw hx hs hb
         obtain ⟨_, s121, rfl⟩ := hs 3 121 (by kernel_rfl) (by kernel_rfl)
         refine .inl ⟨wanted_free rfl, fun K hK => ?_⟩
         clear hs hb
         go_simp
         exact hK _ _ rfl (Ext.refl _)
        ·intro fa fw hx hs hb
         have s20 : fa.tmps[(20 : Nat)]? = some (.slice (some ⟨b', off', none⟩) n rc3) := (hb 20 (by kernel_rfl)).trans (by rfl)
         refine .inl ⟨wanted_free rfl, fun K hK => ?_⟩
         clear hs hb hx
         go_simp
         exact hK _ _ rfl (Ext.refl _)
        ·intro fa fw hx hs hb
         have s22 : fa.tmps[(22 : Nat)]? = some (.int .i64 t) := (hb 22 (by kernel_rfl)).trans (by rfl)
         refine .inl ⟨wanted_free rfl, fun K hK => ?_⟩
         clear hs hb hx
         go_simp
         exact hK _ _ rfl (Ext.refl _)
        ·intro fa fw hx hs hb
         obtain ⟨_, s123, rfl⟩ := hs 5 123 (by kernel_rfl) (by kernel_rfl)
         obtain ⟨_, s124, rfl⟩ := hs 6 124 (by kernel_rfl) (by kernel_rfl)
         refine .inl ⟨wanted_free rfl, fun K hK => ?_⟩
         clear hs hb hx
         go_simp
         exact hK _ _ rfl (Ext.refl _)
        ·intro fa fw hx hs hb
         obtain ⟨_, s125, rfl⟩ := hs 7 125 (by kernel_rfl) (by kernel_rfl)
         have c0 := hx.keeps _ _ CYW.out
         refine .inl ⟨wanted_free rfl, fun K hK => ?_⟩
         clear hs hb hx
         go_simp
         exact hK _ _ rfl (Ext.refl _)
        ·intro fa fw hx hs hb
         obtain ⟨_, s126, rfl⟩ := hs 8 126 (by kernel_rfl) (by kernel_rfl)
         refine .inl ⟨wanted_free rfl, fun K hK => ?_⟩
         clear hs hb
         go_simp
         exact hK _ _ rfl (Ext.refl _)
        ·intro fa fw hx hs hb
         obtain ⟨_, s122, rfl⟩ := hs 4 122 (by kernel_rfl) (by kernel_rfl)
         obtain ⟨_, s127, rfl⟩ := hs 9 127 (by kernel_rfl) (by kernel_rfl)
         refine .inl ⟨wanted_free rfl, fun K hK => ?_⟩
         clear hs hb
         go_simp
         exact hK _ _ rfl (Ext.refl _)
       case rest =>
        intro wl hxwl
        rintro _ rfl
        rintro _ rfl
        rintro _ rfl
        rintro _ rfl
        rintro _ rfl
        rintro _ rfl
        rintro _ rfl
        rintro _ rfl
        rintro _ rfl
        rintro _ rfl
        rintro _ rfl
        simp only [putAll, List.take, Act.put, List.setIfInBounds_toArray, List.set_cons_zero, List.set_cons_succ]
        refine wpAny_done (by kernel_rfl) ?_ _
        have HE2 := Lib.hid (HE1.out.trans hxwl)
        have cx := HE2.out.keeps _ _ CY.out
        clear hxwl CXW CYW
        go_wp2_with fail
        clear cx
        go_loopw [23] (fun j wr => ∃ (u : Nat), u ≤ x.length ∧ j = .int .i64 u ∧ Ext w3 wr) (fun j _ => x.length - (intOf j).toNat)
        case atStart => exact ⟨0, Nat.zero_le _, rfl, HE2.out⟩
        case round =>
         obtain ⟨u, hu, rfl, hext⟩ := hrel
         have cx := hext.keeps _ _ CY.out
         by_cases hlu : u < x.length
         ·obtain ⟨b2, off2, y, rfl, hc2, hy⟩ := SX.out.at_ hlu
          obtain ⟨b3, off3, z, rfl, hc3, hz⟩ := SY.out.at_ hlu
          have hzy : z = bitI k y := by
           unfold laneI at hz
           rw [List.getElem?_map, hy] at hz
           exact (Option.some.inj hz).symm
          subst hzy
          have CXW := Lib.hid (hext.keeps _ _ CX.out); have CYW := Lib.hid cx
          have W2 := Lib.hid (hext.keeps _ _ hc2); have W3 := Lib.hid (hext.keeps _ _ hc3); have HE3 := Lib.hid hext
          have hand := uI_lane y k
          have hwr : IntKind.i64.wrap (bitI k y) = bitI k y := IntWalk.i64_in _ (by rcases bitI_01 k y with e | e <;> omega)
          clear hc2 hc3 hy hz hext
          go_wp2_with fail
          clear cx
          refine wp_flow3 19 0 [isV (.slice (some ⟨b, off, none⟩) n d), isV (.int .i64 t), isV (.pointer (some ⟨b, off + t, none⟩)), isV (.slice (some ⟨b2, off2, none⟩) x.length k1), isV (.int .i64 u), isV (.pointer (some ⟨b2, off2 + u, none⟩)), isV (U y), isV (.int .i64 k), isV (.int .u64 (uI y / 2 ^ k)), isV (.int .u64 (bitI k y)), isV (.int .i64 (bitI k y)), isV (.slice (some ⟨b', off', none⟩) n rc3), isV (.int .i64 t), isV (.pointer (some ⟨b', off' + t, none⟩)), isV (.slice (some ⟨b3, off3, none⟩) x.length k2), isV (.int .i64 u), isV (.pointer (some ⟨b3, off3 + u, none⟩)), isV (I (bitI k y)), isV (.bool false)] (by kernel_rfl) rfl rfl (by kernel_rfl) (by kernel_rfl) ⟨isV_mono, isV_mono, isV_mono, isV_mono, isV_mono, isV_mono, isV_mono, isV_mono, isV_mono, isV_mono, isV_mono, isV_mono, isV_mono, isV_mono, isV_mono, isV_mono, isV_mono, isV_mono, isV_mono, trivial⟩ ?each ?rest
          case each =>
           refine .cons ?_ (.cons ?_ (.cons ?_ (.cons ?_ (.cons ?_ (.cons ?_ (.cons ?_ (.cons ?_ (.cons ?_ (.cons ?_ (.cons ?_ (.cons ?_ (.cons ?_ (.cons ?_ (.cons ?_ (.cons ?_ (.cons ?_ (.cons ?_ (.cons ?_ (.nil)))))))))))))))))))
           ·intro fa fw hx hs hb
            have s13 : fa.tmps[(13 : Nat)]? = some (.slice (some ⟨b, off, none⟩) n d) := (hb 13 (by kernel_rfl)).trans (by rfl)
            refine .inl ⟨wanted_free rfl, fun K hK => ?_⟩
            clear hs hb hx
            go_simp
            exact hK _ _ rfl (Ext.refl _)
           ·intro fa fw hx hs hb
            have s22 : fa.tmps[(22 : Nat)]? = some (.int .i64 t) := (hb 22 (by kernel_rfl)).trans (by rfl)
            refine .inl ⟨wanted_free rfl, fun K hK => ?_⟩
            clear hs hb hx
            go_simp
            exact hK _ _ rfl (Ext.refl _)
           ·intro fa fw hx hs hb
            obtain ⟨_, s138, rfl⟩ := hs 0 138 (by kernel_rfl) (by kernel_rfl)
            obtain ⟨_, s139, rfl⟩ := hs 1 139 (by kernel_rfl) (by kernel_rfl)
            refine .inl ⟨wanted_free rfl, fun K hK => ?_⟩
            clear hs hb hx
            go_simp
            exact hK _ _ rfl (Ext.refl _)
           ·intro fa fw hx hs hb
            obtain ⟨_, s140, rfl⟩ := hs 2 140 (by kernel_rfl) (by kernel_rfl)
            have c0 := hx.keeps _ _ CXW.out
            refine .inl ⟨wanted_free rfl, fun K hK => ?_⟩
            clear hs hb hx
            go_simp
            exact hK _ _ rfl (Ext.refl _)
           ·intro fa fw hx hs hb
            have s23 : fa.tmps[(23 : Nat)]? = some (.int .i64 u) := (hb 23 (by kernel_rfl)).trans (by rfl)
            refine .inl ⟨wanted_free rfl, fun K hK => ?_⟩
            clear hs hb hx
            go_simp
            exact hK _ _ rfl (Ext.refl _)
           ·intro fa fw hx hs hb
            obtain ⟨_, s141, rfl⟩ := hs 3 141 (by kernel_rfl) (by kernel_rfl)
            obtain ⟨_, s142, rfl⟩ := hs 4 142 (by kernel_rfl) (by kernel_rfl)
            refine .inl ⟨wanted_free rfl, fun K hK => ?_⟩
            clear hs hb hx
            go_simp
            exact hK _ _ rfl (Ext.refl _)
           ·intro fa fw hx hs hb
            obtain ⟨_, s143, rfl⟩ := hs 5 143 (by kernel_rfl) (by kernel_rfl)
            have c0 := hx.keeps _ _ W2.out
            refine .inl ⟨wanted_free rfl, fun K hK => ?_⟩
            clear hs hb hx
            go_simp
            exact hK _ _ rfl (Ext.refl _)
           ·intro fa fw hx hs hb
            have s15 : fa.tmps[(15 : Nat)]? = some (.int .i64 k) := (hb 15 (by kernel_rfl)).trans (by rfl)
            refine .inl ⟨wanted_free rfl, fun K hK => ?_⟩
            clear hs hb hx
            go_simp
            exact hK _ _ rfl (Ext.refl _)
           ·intro fa fw hx hs hb
            obtain ⟨_, s144, rfl⟩ := hs 6 144 (by kernel_rfl) (by kernel_rfl)
            obtain ⟨_, s145, rfl⟩ := hs 7 145 (by kernel_rfl) (by kernel_rfl)
            refine .inl ⟨wanted_free rfl, fun K hK => ?_⟩
            clear hs hb
            go_simp
            exact hK _ _ rfl (Ext.refl _)
           ·intro fa fw hx hs hb
            obtain ⟨_, s146, rfl⟩ := hs 8 146 (by kernel_rfl) (by kernel_rfl)
            refine .inl ⟨wanted_free rfl, fun K hK => ?_⟩
            clear hs hb
            go_simp
            exact hK _ _ rfl (Ext.refl _)
           ·intro fa fw hx hs hb
            obtain ⟨_, s147, rfl⟩ := hs 9 147 (by kernel_rfl) (by kernel_rfl)
            refine .inl ⟨wanted_free rfl, fun K hK => ?_⟩
            clear hs hb
            go_simp
            exact hK _ _ rfl (Ext.refl _)
           ·intro fa fw hx hs hb
            have s20 : fa.tmps[(20 : Nat)]? = some (.slice (some ⟨b', off', none⟩) n rc3) := (hb 20 (by kernel_rfl)).trans (by rfl)
            refine .inl ⟨wanted_free rfl, fun K hK => ?_⟩
            clear hs hb hx
            go_simp
            exact hK _ _ rfl (Ext.refl _)
           ·intro fa fw hx hs hb
            have s22 : fa.tmps[(22 : Nat)]? = some (.int .i64 t) := (hb 22 (by kernel_rfl)).trans (by rfl)
            refine .inl ⟨wanted_free rfl, fun K hK => ?_⟩
            clear hs hb hx
            go_simp
            exact hK _ _ rfl (Ext.refl _)
           ·intro fa fw hx hs hb
            obtain ⟨_, s149, rfl⟩ := hs 11 149 (by kernel_rfl) (by kernel_rfl)
            obtain ⟨_, s150, rfl⟩ := hs 12 150 (by kernel_rfl) (by kernel_rfl)
            refine .inl ⟨wanted_free rfl, fun K hK => ?_⟩
            clear hs hb hx
            go_simp
            exact hK _ _ rfl (Ext.refl _)
           ·intro fa fw hx hs hb
            obtain ⟨_, s151, rfl⟩ := hs 13 151 (by kernel_rfl) (by kernel_rfl)
            have c0 := hx.keeps _ _ CYW.out
            refine .inl ⟨wanted_free rfl, fun K hK => ?_⟩
            clear hs hb hx
            go_simp
            exact hK _ _ rfl (Ext.refl _)
           ·intro fa fw hx hs hb
            have s23 : fa.tmps[(23 : Nat)]? = some (.int .i64 u) := (hb 23 (by kernel_rfl)).trans (by rfl)
            refine .inl ⟨wanted_free rfl, fun K hK => ?_⟩
            clear hs hb hx
            go_simp
            exact hK _ _ rfl (Ext.refl _)
           ·intro fa fw hx hs hb
            obtain ⟨_, s152, rfl⟩ := hs 14 152 (by kernel_rfl) (by kernel_rfl)
            obtain ⟨_, s153, rfl⟩ := hs 15 153 (by kernel_rfl) (by kernel_rfl)
            refine .inl ⟨wanted_free rfl, fun K hK => ?_⟩
            clear hs hb hx
            go_simp
            exact hK _ _ rfl (Ext.refl _)
           ·intro fa fw hx hs hb
            obtain ⟨_, s154, rfl⟩ := hs 16 154 (by kernel_rfl) (by kernel_rfl)
            have c0 := hx.keeps _ _ W3.out
            refine .inl ⟨wanted_free rfl, fun K hK => ?_⟩
            clear hs hb hx
            go_simp
            exact hK _ _ rfl (Ext.refl _)
           ·intro fa fw hx hs hb
            obtain ⟨_, s148, rfl⟩ := hs 10 148 (by kernel_rfl) (by kernel_rfl)
            obtain ⟨_, s155, rfl⟩ := hs 17 155 (by kernel_rfl) (by kernel_rfl)
            refine .inl ⟨wanted_free rfl, fun K hK => ?_⟩
            clear hs hb
            go_simp
            exact hK _ _ rfl (Ext.refl _)
          case rest =>
           intro wl hxwl
           rintro _ rfl
           rintro _ rfl
           rintro _ rfl
           rintro _ rfl
           rintro _ rfl
           rintro _ rfl
           rintro _ rfl
           rintro _ rfl
           rintro _ rfl
           rintro _ rfl
           rintro _ rfl
           rintro _ rfl
           rintro _ rfl
           rintro _ rfl
           rintro _ rfl
           rintro _ rfl
           rintro _ rfl
           rintro _ rfl
           rintro _ rfl
           simp only [putAll, List.take, Act.put, List.setIfInBounds_toArray, List.set_cons_zero, List.set_cons_succ]
           refine wpAny_done (by kernel_rfl) ?_ _
           have HE4 := Lib.hid (HE3.out.trans hxwl)
           clear hxwl
           go_wp2
           go_roundw
           case rel => exact ⟨u + 1, by omega, by go_num, HE4.out⟩
           case measure => simp [intOf]; omega
         ·obtain ⟨lx, hlx⟩ : ∃ lx, lx = x.length := ⟨_, rfl⟩
          rw [← hlx] at hu hlu cx ⊢
          obtain rfl : lx = u := by omega
          have HE3 := Lib.hid hext
          clear hext
          go_wp2
          go_roundw
          case rel => exact ⟨t + 1, by omega, by go_num, HE3.out⟩
          case measure => simp [intOf]; omega
      ·obtain rfl : n = t := by omega
       have X5 := Lib.hid (XB.out.trans hext)
       clear hext
       go_wp2_with fail
       refine (forgeBegun_any wr).mono ?_; rintro e w5 ⟨rfl, x5⟩
       go_wp2
       go_ret
       exact ⟨rfl, XS.out.trans (X5.out.trans x5)⟩
  ·have hnz : (prunE (dropN (foldN (netR p))) rows != 0) = true := by simpa using he
   have hn5 := swept_not5 HF.out rows
   generalize prunE (dropN (foldN (netR p))) rows = E at *
   have hn5' : (E != 5) = true := by simpa using hn5
   clear he o1 s1 x1 h1 h2
   go_wp2_with fail
   refine (forgeBegun_any w1).mono ?_; rintro e w3 ⟨rfl, x3⟩
   go_wp2
   go_ret
   exact ⟨by simp [hn5], XS.out.trans (X1.out.trans x3)⟩
 ·have hnz : (checkP p != 0) = true := by simpa using hc
  generalize checkP p = C at *
  clear hc hbf
  go_wp2_with fail
  rw [← HWF.out]
  refine (forgeBegun_any wf).mono ?_; rintro e w4 ⟨rfl, x4⟩
  go_wp2
  go_ret
  exact ⟨rfl, XF.out.trans x4⟩
end
end Go.Proofs.Ytlafiddfplhafaa
