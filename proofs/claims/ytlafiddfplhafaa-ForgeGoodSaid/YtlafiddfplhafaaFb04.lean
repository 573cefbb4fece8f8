/- Whom each gate serves: users walked. -/
import Derived.Test.YtlafiddfplhafaaFb02
import Derived.Test.YtlafiddfplhafaaFb03
import Derived.Test.YtlafiddfplhafaaFb01
import Derived.Orders
import Derived.RegionTactic
import Derived.Deep.DeepCutAuto
namespace Go.Proofs.Ytlafiddfplhafaa
set_option linter.unusedVariables false
set_option linter.unusedSimpArgs false
set_option linter.unusedVariables false
set_option linter.unusedSimpArgs false
open Go.RowKit
theorem tab_ints : (Try.prog.info? 23).map (fun i => (i.zero, i.size, i.bytes)) = some (some (.slice none 0 0), 1, 24) := by kernel_rfl
set_option maxRecDepth 100000 in
set_option maxHeartbeats 4000000 in
theorem users_any (i : Int) (GA : Option Addr) (gn gc : Nat) (RA : Option Addr) (rn rc : Nat) (OA : Option Addr) (on oc : Nat) (N : NetM) (w : World) (h : NetC w i GA gn gc RA rn rc OA on oc N) (ok : NetOK N) :
    Calls Try.prog 86 #[netV i GA gn gc RA rn rc OA on oc] w fun e w' => ∃ g0 vs, e = .returned (.slice (some ⟨g0, 0, none⟩) gn gn) ∧ Rows2 23 3 w' w.heap.size g0 gn (usersM N.gates) vs ∧ Ext w w' := by
  have hgl : N.gates.length = gn := h.gates.1
  have hg200 : gn ≤ 200 := by have := ok.gl; omega
  obtain ⟨W, hW⟩ : ∃ W, W = w.alloc (.cells #[I i, .slice GA gn gc, .slice RA rn rc, .slice OA on oc] 39) := ⟨_, rfl⟩
  have hxW : Ext w W := by rw [hW]; exact (Ext.refl _).alloc _
  have hbox : NetBox W w.heap.size i GA gn gc RA rn rc OA on oc := by rw [hW]; exact NetBox.new w i GA gn gc RA rn rc OA on oc _
  have HN := Lib.hid (h.keep hxW.keeps); have HBox := Lib.hid hbox; have HW := Lib.hid hW; have HX := Lib.hid hxW; have HOK := Lib.hid ok
  have hmk := fun Q => run_make1 (P := Try.prog) 24 23 tab_ints Try.underlying24 rfl gn (by omega) (by omega) Q
  have hsz : W.heap.size = w.heap.size + 1 := by rw [hW]; simp
  have hst := Rows2.start (E := 23) (T := 3) (n := gn) (base := W.heap.size) W (Nat.le_refl _) (by unfold maxLen; omega) (w.heap.size + 1) hsz.symm
  have HSZ := Lib.hid hsz
  have HST := Lib.hid hst
  clear h hW hxW hbox hst ok hsz
  go_enter Try.func86, Try.ntmps86
  go_wp2_with fail
  rw [← HW.out]
  go_wp2_with fail
  clear hmk
  go_loopw [15] (fun j wr => ∃ (k : Nat) (U : List (List Int)) (vs : List Value), k ≤ gn ∧ j = .int .i64 k ∧ Ext W wr ∧ Rows2 23 3 wr W.heap.size (w.heap.size + 1) gn U vs ∧ usersFrom (N.gates.drop k) k U = usersM N.gates ∧ totalU U ≤ 16 * k) (fun j _ => gn - (intOf j).toNat)
  case atStart => exact ⟨0, _, _, Nat.zero_le _, rfl, (Ext.refl _).alloc _, HST.out, by unfold usersM; rw [HN.out.gates.1]; rfl, by simp [totalU]⟩
  case round =>
    obtain ⟨k, U, vs, hk, rfl, hext, hrows, hM, htot⟩ := hrel
    by_cases hlt : k < gn
    · obtain ⟨b, off, A', m, c', g, rfl, g0, g1, g2, hs, hmc, hcm, hd, hgk⟩ := HN.out.gates.next hlt
      have hgm : g ∈ N.gates := List.mem_of_getElem? hgk
      have hgr := HOK.out.gate hgm
      rw [HN.out.gates.1] at hgr
      have c0 := hext.keeps _ _ g0; have c1 := hext.keeps _ _ g1; have c2 := hext.keeps _ _ g2
      rw [hd] at hM
      have HM := Lib.hid hM; have HS := Lib.hid hs; have HRows := Lib.hid hrows; have HGR := Lib.hid hgr; have HT := Lib.hid htot; have HE := Lib.hid hext
      have hm16 : m ≤ 16 := by have := hs.len; have := hgr.al; omega
      clear hM hs hrows hgr htot hext g0 g1 g2 hd hgk hgm hmc hcm
      go_wp2_with fail
      have hxg : Ext W (wr.alloc (.cells #[I g.kind, I g.num, .slice A' m c'] 95)) := HE.out.alloc _
      have hrg := HRows.out.ext ((Ext.refl wr).alloc (.cells #[I g.kind, I g.num, .slice A' m c'] 95))
      have HXG := Lib.hid hxg; have HRG := Lib.hid hrg
      clear hxg hrg HRows c0 c1 c2 HE
      go_loopw [23] (fun j wr2 => ∃ (q : Nat) (U2 : List (List Int)) (vs2 : List Value), q ≤ m ∧ j = .int .i64 q ∧ Ext W wr2 ∧ Rows2 23 3 wr2 W.heap.size (w.heap.size + 1) gn U2 vs2 ∧ addUses U2 k (g.args.drop q) = addUses U k g.args ∧ totalU U2 ≤ 16 * k + q) (fun j _ => m - (intOf j).toNat)
      case atStart => exact ⟨0, U, vs, Nat.zero_le _, rfl, HXG.out, HRG.out, rfl, HT.out⟩
      case round =>
        obtain ⟨q, U2, vs2, hq, rfl, hext2, hrows2, hM2, htot2⟩ := hrel
        by_cases hltq : q < m
        · obtain ⟨b2, off2, x, rfl, hc0, hdq⟩ := HS.out.next hltq
          have hxm : x ∈ g.args := by
            have : x ∈ g.args.drop q := by rw [hdq]; simp
            exact List.mem_of_mem_drop this
          obtain ⟨hx0, hx1⟩ := HGR.out.args x hxm
          obtain ⟨a, rfl⟩ : ∃ a : Nat, x = a := ⟨x.toNat, by omega⟩
          have ha : a < gn := by omega
          obtain ⟨v, u, hv, hu, hcell, hfree, hown, hbase⟩ := hrows2.get ha
          obtain ⟨A3, c3, rfl, -, -, -⟩ := own_slice hown
          have hc := hext2.keeps _ _ hc0
          have hlen := len_le_total hu
          rw [hdq] at hM2
          have hul : u.length ≤ 3200 := by omega
          have HM2 := Lib.hid hM2; have HR2 := Lib.hid hrows2; have HT2 := Lib.hid htot2; have HE2 := Lib.hid hext2; have HO := Lib.hid hown; have HV := Lib.hid hv; have HU := Lib.hid hu; have HC := Lib.hid hcell; have HF := Lib.hid hfree
          clear hM2 hrows2 htot2 hext2 hown hc0 hdq hxm hx0 hx1 hlen hv hu hbase hfree
          go_wp2_with (at_builtin; refine wpList_appendBig rfl (.tmp 32) (.tmp 34) 23 3 rfl tab_int' Try.underlying23 rfl (by omega) W (HE2.out.alloc _) _ u.length _ rfl (own_ext HO.out ((Ext.refl _).alloc _)) (some ⟨wr.heap.size, 0, none⟩) 1 1 [I k] rfl (Sl.newAt _ _ [I k] _ rfl) (by simp [Value.oneCell']) (by omega) (by omega) ?_; intro v' w2 hown2 hx3 hg3 hf3; obtain ⟨A4, c4, rfl, -, -, -⟩ := own_slice hown2; have e1 := hg3.cell (a := ⟨w.heap.size + 1, a, none⟩) (Keeps.alloc _ _ _ _ HC.out) (fun e => HR2.out.off a _ HV.out e.symm); have e2 := (frozen_keep hg3 ((Ext.refl wr).alloc _) HC.out (fun e => HR2.out.off a _ HV.out e.symm)).trans HF.out; clear hcell)
          go_roundw
          case rel =>
            have hst := (HR2.out.ext ((Ext.refl wr).alloc (.cells #[I k] 3))).step HV.out HU.out hown2 hg3 hf3
            refine ⟨q + 1, _, _, by omega, by go_num, hx3.setCell (by show W.heap.size ≤ w.heap.size + 1; exact Nat.le_of_eq HSZ.out) _, hst, HM2.out, ?_⟩
            · have h1 := total_modify (k : Int) U2 a; have h2 := HT2.out; omega
          case measure => simp [intOf]; omega
        · have hqm : q = m := by omega
          subst hqm
          rw [HS.out.drop_end hltq] at hM2
          have HM2 := Lib.hid hM2; have HR2 := Lib.hid hrows2; have HT2 := Lib.hid htot2; have HE2 := Lib.hid hext2
          clear hM2 hrows2 htot2 hext2 hltq hq
          go_wp2
          go_roundw
          case rel => exact ⟨k + 1, U2, vs2, by omega, by go_num, HE2.out, HR2.out, by rw [← HM.out, show U2 = addUses U k g.args from HM2.out]; rfl, by have := HT2.out; omega⟩
          case measure => simp [intOf]; omega
    · have hkn : k = gn := by omega
      subst hkn
      rw [HN.out.gates.drop_end hlt] at hM
      have hU : U = usersM N.gates := hM
      subst hU
      have HRows := Lib.hid hrows; have HE := Lib.hid hext
      clear hM hrows hext htot hlt hk
      go_wp2
      go_ret
      exact ⟨_, _, rfl, HRows.out.base_le HX.out.size, HX.out.trans HE.out⟩
end Go.Proofs.Ytlafiddfplhafaa
/- A region that draws its order, by one fact for each operation: whatever order is drawn, each operation's slot holds what its fact says. -/
namespace Go.Proofs.Ytlafiddfplhafaa
set_option linter.unusedVariables false
set_option linter.unusedSimpArgs false
open Go.RowKit
theorem wpOp_step' {P : Program} {ops : Array Oper} {Q : Exit → Act → World → Prop} {i : Nat} {o : Oper} {K : Act → World → Prop} {a : Act} {w : World} (ho : ops[i]? = some o) (h1 : Region.wanted o (yielded ops a.tmps) = true) (h2 : Oper.wp P o a w K Q) : wpOp P ops Q i K a w := by
  unfold wpOp
  rw [ho]
  show if Region.wanted o (yielded ops a.tmps) = true then _ else _
  rw [if_pos h1]; exact .inl h2
/-- What is known in the midst of such a region: nothing old has changed, and each operation that has come up has left what its fact says. -/
structure Flow (W0 : World) (a0 : Act) (ops : Array Oper) (F : Nat → Value → World → Prop) (listed : Array Bool) (a : Act) (w : World) : Prop where
  ext : Ext W0 w
  size : a.tmps.size = a0.tmps.size
  defers : a.defers = a0.defers
  base : ∀ s : Nat, (∀ (j : Nat) (o : Oper), ops[j]? = some o → o.dst ≠ some s) → a.tmps[s]? = a0.tmps[s]?
  slot : ∀ (j : Nat) (o : Oper) (d : Nat), listed.getD j false = true → ops[j]? = some o → o.dst = some d → ∃ v, a.tmps[d]? = some v ∧ F j v w
def flowOK (ops : Array Oper) (n : Nat) : Bool :=
  (List.range ops.size).all fun j => match ops[j]? with
    | none => true
    | some o => (match o.dst with
      | some d => decide (d < n) && (List.range j).all (fun i => match ops[i]? with | some o' => !(o'.dst == some d) | none => true)
      | none => false) && o.after.toList.all (fun e => !(Region.binds .any e) || decide (e.on < j))
theorem flow_dst {ops : Array Oper} {n : Nat} (h : flowOK ops n = true) {j : Nat} {o : Oper} (hj : ops[j]? = some o) : ∃ d, o.dst = some d ∧ d < n ∧ (∀ i o', i < j → ops[i]? = some o' → o'.dst ≠ some d) ∧ ∀ e ∈ o.after.toList, Region.binds .any e = true → e.on < j := by
  unfold flowOK at h
  have hlt : j < ops.size := (Array.getElem?_eq_some_iff.1 hj).1
  have h1 := List.all_eq_true.1 h j (List.mem_range.2 hlt)
  rw [hj] at h1
  simp only [Bool.and_eq_true] at h1
  obtain ⟨h1, h2⟩ := h1
  cases hd : o.dst with
  | none => rw [hd] at h1; cases h1
  | some d =>
    rw [hd] at h1
    simp only [Bool.and_eq_true, decide_eq_true_eq] at h1
    refine ⟨d, rfl, h1.1, fun i o' hi ho' => ?_, fun e he hb => by have := List.all_eq_true.1 h2 e he; rw [hb] at this; simpa using this⟩
    have h3 := List.all_eq_true.1 h1.2 i (List.mem_range.2 hi)
    rw [ho'] at h3
    simpa using h3
theorem flow_apart {ops : Array Oper} {n : Nat} (h : flowOK ops n = true) {j i : Nat} {o o' : Oper} {d : Nat} (hj : ops[j]? = some o) (hi : ops[i]? = some o') (hd : o.dst = some d) (hd' : o'.dst = some d) : j = i := by
  rcases Nat.lt_trichotomy j i with q | q | q
  · obtain ⟨d2, e, _, h3, _⟩ := flow_dst h hi
    rw [hd'] at e; injection e with e; subst e
    exact absurd hd (h3 j o q hj)
  · exact q
  · obtain ⟨d2, e, _, h3, _⟩ := flow_dst h hj
    rw [hd] at e; injection e with e; subst e
    exact absurd hd' (h3 i o' q hi)
theorem Flow.put {W0 : World} {a0 : Act} {ops : Array Oper} {F : Nat → Value → World → Prop} {listed : Array Bool} {a : Act} {w w' : World} (hok : flowOK ops a0.tmps.size = true) (mono : ∀ j v w w', F j v w → Ext w w' → F j v w')
    (h : Flow W0 a0 ops F listed a w) (hs : listed.size = ops.size) {j : Nat} {o : Oper} (hj : ops[j]? = some o) {v : Value} (hv : F j v w') (hx : Ext w w') : Flow W0 a0 ops F (listed.setIfInBounds j true) (a.put o.dst v) w' := by
  obtain ⟨d, hd, hdn, -, -⟩ := flow_dst hok hj
  rw [hd]
  refine ⟨h.ext.trans hx, by simpa [Act.put] using h.size, h.defers, fun s hsn => ?_, fun i o' d' hl hi hd' => ?_⟩
  · show (a.tmps.setIfInBounds d v)[s]? = _
    rw [Array.getElem?_setIfInBounds_ne (fun e => hsn j o hj (by rw [hd, e]))]
    exact h.base s hsn
  · show ∃ v', (a.tmps.setIfInBounds d v)[d']? = some v' ∧ _
    by_cases e : j = i
    · subst e
      rw [hj] at hi; injection hi with hi; subst hi
      rw [hd] at hd'; injection hd' with hd'; subst hd'
      refine ⟨v, ?_, hv⟩
      rw [Array.getElem?_setIfInBounds_self_of_lt (by rw [h.size]; exact hdn)]
    · have hne : d ≠ d' := fun q => e (flow_apart hok hj hi hd (by rw [hd', q]))
      have hl' : listed.getD i false = true := by
        rw [Array.getD_eq_getD_getElem?, Array.getElem?_setIfInBounds_ne e] at hl
        rw [Array.getD_eq_getD_getElem?]; exact hl
      obtain ⟨v', h1, h2⟩ := h.slot i o' d' hl' hi hd'
      exact ⟨v', by rw [Array.getElem?_setIfInBounds_ne hne]; exact h1, mono _ _ _ _ h2 hx⟩
theorem ready_of {md : Region.Mode} {ops : Array Oper} {listed : Array Bool} {i : Nat} (h : i ∈ Region.ready md ops listed) : ∃ o, ops[i]? = some o ∧ ∀ e ∈ o.after.toList, Region.binds md e = true → listed.getD e.on false = true := by
  unfold Region.ready at h
  obtain ⟨h1, h2⟩ := List.mem_filter.1 h
  simp only [Bool.and_eq_true] at h2
  obtain ⟨-, h3⟩ := h2
  cases ho : ops[i]? with
  | none => rw [ho] at h3; cases h3
  | some o =>
    rw [ho] at h3
    simp only [Option.map_some, Option.getD_some] at h3
    refine ⟨o, rfl, fun e he hb => ?_⟩
    have := Array.all_eq_true'.1 h3 e (by simpa using he)
    simpa [hb] using this
/-! ## The rule with the operations in a list, each with its own fact -/
inductive AllFrom (E : Nat → Oper → Prop) : Nat → List Oper → Prop
  | nil {k : Nat} : AllFrom E k []
  | cons {k : Nat} {o : Oper} {l : List Oper} : E k o → AllFrom E (k + 1) l → AllFrom E k (o :: l)
theorem AllFrom.at_ {E : Nat → Oper → Prop} {k : Nat} {l : List Oper} (h : AllFrom E k l) : ∀ (j : Nat) (o : Oper), l[j]? = some o → E (k + j) o := by
  induction h with
  | nil => intro j o h; simp at h
  | cons h0 _ ih =>
    intro j o h
    cases j with
    | zero => simp at h; subst h; exact h0
    | succ j => have := ih j o (by simpa using h); rwa [show ∀ k : Nat, k + 1 + j = k + (j + 1) from fun k => by omega] at this
def nth {α : Type} : List α → Nat → α → α
  | [], _, d => d
  | x :: _, 0, _ => x
  | _ :: l, n + 1, d => nth l n d
abbrev Fact := Value → World → Prop
/-- The facts of the operations, in their order. -/
def facts (Fs : List Fact) (j : Nat) (v : Value) (w : World) : Prop := nth Fs j (fun _ _ => True) v w
def factsMono : List Fact → Prop
  | [] => True
  | f :: l => (∀ v w w', f v w → Ext w w' → f v w') ∧ factsMono l
theorem facts_mono : ∀ {Fs : List Fact}, factsMono Fs → ∀ j v w w', facts Fs j v w → Ext w w' → facts Fs j v w'
  | [], _, j, v, w, w', _, _ => by unfold facts nth; trivial
  | f :: l, h, 0, v, w, w', hv, hx => h.1 v w w' hv hx
  | f :: l, h, j + 1, v, w, w', hv, hx => facts_mono (Fs := l) h.2 j v w w' hv hx
abbrev isV (V : Value) : Fact := fun v _ => v = V
theorem isV_mono {V : Value} : ∀ (v : Value) (w w' : World), isV V v w → Ext w w' → isV V v w' := fun _ _ _ h _ => h
def dstIs (ops : Array Oper) (i d : Nat) : Bool := match ops[i]? with | some o => o.dst == some d | none => false
theorem dstIs_spec {ops : Array Oper} {i d : Nat} (h : dstIs ops i d = true) : ∃ o, ops[i]? = some o ∧ o.dst = some d := by
  unfold dstIs at h
  cases ho : ops[i]? with
  | none => rw [ho] at h; cases h
  | some o => rw [ho] at h; exact ⟨o, rfl, by simpa using h⟩
def freeSlot (ops : Array Oper) (s : Nat) : Bool := ops.all fun o => !(o.dst == some s)
theorem freeSlot_spec {ops : Array Oper} {s : Nat} (h : freeSlot ops s = true) : ∀ (j : Nat) (o : Oper), ops[j]? = some o → o.dst ≠ some s := fun j o ho => by
  have := (Array.all_eq_true_iff_forall_mem.1 h) o (Array.mem_of_getElem? ho)
  simpa using this
def waitsFor (o : Oper) (i : Nat) : Bool := o.after.any fun e => e.on == i && Region.binds .any e
theorem waitsFor_spec {o : Oper} {i : Nat} {listed : Array Bool} (h : waitsFor o i = true) (hd : ∀ e ∈ o.after.toList, Region.binds .any e = true → listed.getD e.on false = true) : listed.getD i false = true := by
  obtain ⟨e, he, h2⟩ := Array.any_eq_true'.1 h
  simp only [Bool.and_eq_true, beq_iff_eq] at h2
  rw [← h2.1]; exact hd e (by simpa using he) h2.2
theorem wanted_free {ops : Array Oper} {o : Oper} {tmps : Array Value} (hg : o.guard = none) : Region.wanted o (yielded ops tmps) = true := by
  unfold Region.wanted; rw [hg]
theorem wpOp_skip' {P : Program} {ops : Array Oper} {Q : Exit → Act → World → Prop} {i : Nat} {o : Oper} {K : Act → World → Prop} {a : Act} {w : World} (ho : ops[i]? = some o) (h1 : Region.wanted o (yielded ops a.tmps) = false) (h2 : K (a.put o.dst undef) w) : wpOp P ops Q i K a w := by
  unfold wpOp
  rw [ho]
  show if Region.wanted o (yielded ops a.tmps) = true then _ else _
  rw [if_neg (by rw [h1]; decide)]; exact h2
/-! ## The same for the first m operations of a region; the state behind them is written out -/
def putAll : Act → List Oper → List Value → Act
  | a, o :: os, v :: vs => putAll (a.put o.dst v) os vs
  | a, _, _ => a
theorem Act.put_size (a : Act) (d : Option Tmp) (v : Value) : (a.put d v).tmps.size = a.tmps.size := by cases d <;> simp [Act.put]
theorem Act.put_defers' (a : Act) (d : Option Tmp) (v : Value) : (a.put d v).defers = a.defers := by cases d <;> rfl
theorem eq_putAll {a : Act} : ∀ {os : List Oper} {vs : List Value} {a0 : Act}, vs.length = os.length → a.tmps.size = a0.tmps.size → a.defers = a0.defers →
    (∀ s : Nat, (∀ o ∈ os, o.dst ≠ some s) → a.tmps[s]? = a0.tmps[s]?) → (∀ (j : Nat) (o : Oper) (d : Nat), os[j]? = some o → o.dst = some d → d < a0.tmps.size ∧ ∃ v, vs[j]? = some v ∧ a.tmps[d]? = some v) → a = putAll a0 os vs
  | [], [], a0, _, _, hd, hb, _ => by
    obtain ⟨t, d⟩ := a
    obtain ⟨t0, d0⟩ := a0
    simp only [putAll]
    have h1 : t = t0 := Array.ext_getElem? fun s => hb s (fun o h => by cases h)
    have h2 : d = d0 := hd
    rw [h1, h2]
  | o :: os, v :: vs, a0, hl, hsz, hd, hb, hs => by
    simp only [putAll]
    refine eq_putAll (by simpa using hl) (by rw [Act.put_size]; exact hsz) (by rw [Act.put_defers']; exact hd) (fun s h => ?_) (fun j o' d' hj hd' => ?_)
    · cases ho : o.dst with
      | none => exact hb s (fun o' h' => by
          rcases List.mem_cons.1 h' with rfl | h'
          · rw [ho]; simp
          · exact h o' h')
      | some d =>
        obtain ⟨h1, v', h2, h3⟩ := hs 0 o d (by simp) ho
        simp only [List.getElem?_cons_zero, Option.some.injEq] at h2
        subst h2
        by_cases e : d = s
        · subst e
          rw [h3]; simp [Act.put, Array.getElem?_setIfInBounds_self_of_lt h1]
        · rw [hb s (fun o' h' => by
            rcases List.mem_cons.1 h' with rfl | h'
            · rw [ho]; simpa using e
            · exact h o' h')]
          simp [Act.put, Array.getElem?_setIfInBounds_ne e]
    · obtain ⟨h1, v', h2, h3⟩ := hs (j + 1) o' d' (by simpa using hj) hd'
      exact ⟨by rw [Act.put_size]; exact h1, v', by simpa using h2, h3⟩
def ForFacts : List Fact → World → (List Value → Prop) → Prop
  | [], _, K => K []
  | f :: l, w, K => ∀ v, f v w → ForFacts l w (fun vs => K (v :: vs))
theorem forFacts_get {a : Act} {w : World} : ∀ {os : List Oper} {Fs : List Fact} {K : List Value → Prop}, Fs.length = os.length → ForFacts Fs w K →
    (∀ (j : Nat) (o : Oper), os[j]? = some o → ∃ d v, o.dst = some d ∧ a.tmps[d]? = some v ∧ facts Fs j v w) →
    ∃ vs : List Value, vs.length = os.length ∧ K vs ∧ ∀ (j : Nat) (o : Oper) (d : Nat), os[j]? = some o → o.dst = some d → ∃ v, vs[j]? = some v ∧ a.tmps[d]? = some v
  | [], [], K, _, hK, _ => ⟨[], rfl, hK, fun j o d h => by simp at h⟩
  | o :: os, f :: Fs, K, hl, hK, h => by
    obtain ⟨d, v, h1, h2, h3⟩ := h 0 o (by simp)
    obtain ⟨vs, g1, g2, g3⟩ := forFacts_get (by simpa using hl) (hK v h3) (fun j o' hj => h (j + 1) o' (by simpa using hj))
    refine ⟨v :: vs, by simpa using g1, g2, fun j o' d' hj hd => ?_⟩
    cases j with
    | zero =>
      simp only [List.getElem?_cons_zero, Option.some.injEq] at hj; subst hj
      rw [h1] at hd; injection hd with hd; subst hd
      exact ⟨v, by simp, h2⟩
    | succ j => simpa using g3 j o' d' (by simpa using hj) hd
/-- One operation of the front. -/
def StepOK3 (P : Program) (ops : Array Oper) (m : Nat) (Q : Exit → Act → World → Prop) (W0 : World) (a0 : Act) (F : Nat → Value → World → Prop) (j : Nat) (o : Oper) : Prop :=
  ∀ (a : Act) (w : World), Ext W0 w →
    (∀ i d, waitsFor o i = true → dstIs ops i d = true → ∃ v, a.tmps[d]? = some v ∧ F i v w) →
    (∀ s, freeSlot (ops.toList.take m).toArray s = true → a.tmps[s]? = a0.tmps[s]?) →
    (Region.wanted o (yielded ops a.tmps) = true ∧ ∀ K : Act → World → Prop, (∀ v w', F j v w' → Ext w w' → K (a.put o.dst v) w') → Oper.wp P o a w K Q) ∨ (Region.wanted o (yielded ops a.tmps) = false ∧ F j undef w)
/-- Each operation behind the first m waits for all of them. -/
def sufOK (ops : Array Oper) (m : Nat) : Bool := (List.range ops.size).all fun i => decide (i < m) || match ops[i]? with | some o => (List.range m).all (waitsFor o) | none => true
def preL (m n : Nat) : Array Bool := (List.replicate m true ++ List.replicate n false).toArray
theorem listed_pre {listed : Array Bool} {m n : Nat} (hs : listed.size = m + n) (h1 : ∀ j : Nat, j < m → listed.getD j false = true) (h2 : ∀ j : Nat, m ≤ j → listed.getD j false = false) : listed = preL m n := by
  refine Array.ext_getElem? fun j => ?_
  have e0 : (preL m n)[j]? = (List.replicate m true ++ List.replicate n false)[j]? := List.getElem?_toArray
  rw [e0, List.getElem?_append, List.length_replicate, List.getElem?_replicate, List.getElem?_replicate]
  by_cases hj : j < m
  · have := h1 j hj
    rw [if_pos hj, if_pos hj]
    have hlt : j < listed.size := by omega
    simp only [Array.getD, hlt, dif_pos] at this
    rw [Array.getElem?_eq_getElem hlt]; exact congrArg some this
  · rw [if_neg hj]
    by_cases hlt : j < listed.size
    · have := h2 j (by omega)
      simp only [Array.getD, hlt, dif_pos] at this
      rw [Array.getElem?_eq_getElem hlt, if_pos (by omega)]; exact congrArg some this
    · rw [Array.getElem?_eq_none (by omega), if_neg (by omega)]
theorem count_true_pre {listed : Array Bool} {m n : Nat} (hs : listed.size = m + n) (hc : listed.toList.count false ≤ n) (h2 : ∀ j : Nat, m ≤ j → listed.getD j false = false) : ∀ j : Nat, j < m → listed.getD j false = true := by
  intro j hj
  have hlt : j < listed.size := by omega
  have hl : listed.toList.length = m + n := by simpa using hs
  have e : listed.toList = listed.toList.take m ++ listed.toList.drop m := (List.take_append_drop m _).symm
  have hd : (listed.toList.drop m).count false = n := by
    have : ∀ x ∈ listed.toList.drop m, x = false := by
      intro x hx
      obtain ⟨k, hk, rfl⟩ := List.mem_iff_getElem.1 hx
      rw [List.getElem_drop]
      have hk' : m + k < listed.size := by simp only [List.length_drop, Array.length_toList] at hk; omega
      have := h2 (m + k) (by omega)
      simpa [Array.getD, hk'] using this
    rw [List.count_eq_length.2 (fun x hx => (this x hx).symm)]; simp; omega
  rw [e, List.count_append, hd] at hc
  have h0 : (listed.toList.take m).count false = 0 := by omega
  have hn := List.count_eq_zero.1 h0
  have hx : listed[j] = true := by
    cases hh : listed[j] with
    | true => rfl
    | false => exact absurd (List.mem_iff_getElem.2 ⟨j, by simp; omega, by rw [List.getElem_take]; simpa using hh⟩) hn
  simp [Array.getD, hlt, hx]
theorem wpAny_inv_pre {P : Program} {ops : Array Oper} {Q : Exit → Act → World → Prop} {m n : Nat} (hsz : ops.size = m + n) (hsuf : sufOK ops m = true) (I : Array Bool → Act → World → Prop)
    (step : ∀ listed a w i, listed.size = ops.size → I listed a w → i < m → i ∈ Region.ready .any ops listed → wpOp P ops Q i (I (listed.setIfInBounds i true)) a w)
    (ready : ∀ listed a w, listed.size = ops.size → I listed a w → Region.ready .any ops listed = [] → ∀ j : Nat, j < m → listed.getD j false = true)
    (rest : ∀ a w, I (preL m n) a w → wpAny P .any ops Q n (preL m n) a w) :
    ∀ (k : Nat) (listed : Array Bool) (a : Act) (w : World), listed.size = ops.size → listed.toList.count false = n + k → (∀ j : Nat, m ≤ j → listed.getD j false = false) → I listed a w → wpAny P .any ops Q (n + k) listed a w
  | 0, listed, a, w, hs, hc, h2, hI => by
    have := listed_pre (m := m) (n := n) (by omega) (count_true_pre (m := m) (n := n) (by omega) (by omega) h2) h2
    subst this
    exact rest a w hI
  | k + 1, listed, a, w, hs, hc, h2, hI => by
    have hnot : ¬ ∀ j : Nat, j < m → listed.getD j false = true := by
      intro h
      have e := listed_pre (m := m) (n := n) (by omega) h h2
      rw [e] at hc
      simp [preL, List.count_append, List.count_replicate] at hc
    show wpAny P .any ops Q ((n + k) + 1) listed a w
    refine ⟨fun hr => absurd (ready listed a w hs hI hr) hnot, fun i hi => ?_⟩
    have hi2 := hi
    have him : i < m := by
      rcases Nat.lt_or_ge i m with q | q
      · exact q
      · exfalso; apply hnot
        obtain ⟨o, ho, hdep⟩ := ready_of hi
        have h3 := List.all_eq_true.1 hsuf i (List.mem_range.2 (Array.getElem?_eq_some_iff.1 ho).1)
        rw [ho] at h3
        simp only [Bool.or_eq_true, decide_eq_true_eq] at h3
        rcases h3 with h3 | h3
        · omega
        · intro j hj
          exact waitsFor_spec (List.all_eq_true.1 h3 j (List.mem_range.2 hj)) hdep
    refine wpOp_mono (fun a' w' h => wpAny_inv_pre hsz hsuf I step ready rest k _ a' w' (by simpa using hs) ?_ ?_ h) (step listed a w i hs hI him hi)
    · have hm : i < ops.size ∧ listed.getD i true = false := by
        unfold Region.ready at hi2
        obtain ⟨g1, g2⟩ := List.mem_filter.1 hi2
        refine ⟨List.mem_range.1 g1, ?_⟩
        simp only [Bool.and_eq_true, Bool.not_eq_true'] at g2
        exact g2.1
      obtain ⟨g1, g2⟩ := hm
      have hlt : i < listed.size := by omega
      have hx : listed.toList[i]'(by simpa using hlt) = false := by simpa [Array.getD, hlt] using g2
      have := List.count_set (a := true) (b := false) (l := listed.toList) (i := i) (by simpa using hlt)
      simp only [Array.toList_setIfInBounds]
      have hpos : 0 < listed.toList.count false := List.count_pos_iff.2 (by rw [← hx]; exact List.getElem_mem _)
      rw [this, hx]
      have e1 : (if (false == false) = true then 1 else 0) = 1 := rfl
      have e2 : (if (true == false) = true then 1 else 0) = 0 := rfl
      rw [e1, e2]; omega
    · intro j hj
      rw [getD_set_ne false (by omega)]; exact h2 j hj
/-- THE RULE. The first m operations in whatever order, each by its own fact; then the rest, from a state that is written out. -/
theorem wp_flow3 {P : Program} {l : List Oper} {Q : Exit → Act → World → Prop} {id : Nat} {a0 : Act} {W0 : World} (m n : Nat) (Fs : List Fact) (hm : P.follows .mixedOrders = true) (hln : l.length = m + n) (hfl : Fs.length = m)
    (hok : flowOK (l.take m).toArray a0.tmps.size = true) (hsuf : sufOK l.toArray m = true)
    (mono : factsMono Fs) (each : AllFrom (StepOK3 P l.toArray m Q W0 a0 (facts Fs)) 0 (l.take m))
    (rest : ∀ w, Ext W0 w → ForFacts Fs w (fun vs => wpAny P .any l.toArray Q n (preL m n) (putAll a0 (l.take m) vs) w)) : (Code.region id l.toArray true).wp P Q a0 W0 := by
  have hsz : l.toArray.size = m + n := by simpa using hln
  have hlt : (l.take m).length = m := by simp; omega
  have hpo : ∀ i o, i < m → l.toArray[i]? = some o → (l.take m).toArray[i]? = some o := fun i o hi ho => by
    rw [List.getElem?_toArray, List.getElem?_take_of_lt hi]; simpa using ho
  have hdep : ∀ i o e, i < m → l.toArray[i]? = some o → e ∈ o.after.toList → Region.binds .any e = true → e.on < i := fun i o e hi ho he hbd => by
    obtain ⟨d, -, -, -, h4⟩ := flow_dst hok (hpo i o hi ho)
    exact h4 e he hbd
  refine wp_region_any hm ?_
  have key := wpAny_inv_pre (P := P) (Q := Q) hsz hsuf (fun listed a w => listed.size = m + n ∧ Flow W0 a0 (l.take m).toArray (facts Fs) (listed.extract 0 m) a w) ?_ ?_ ?_ m (Array.replicate l.toArray.size false) a0 { W0 with drawn := W0.drawn + 1 } (by simp) ?_ ?_ ?_
  · rw [Nat.add_comm] at key; rw [← hsz] at key; exact key
  · rintro listed a w i hs ⟨hI0, hI⟩ him hi
    obtain ⟨o, ho, hd⟩ := ready_of hi
    have ho' := hpo i o him ho
    have hl : (l.take m)[i]? = some o := by simpa using ho'
    have hst := each.at_ i o hl
    rw [Nat.zero_add] at hst
    have hext : ∀ j : Nat, j < m → (listed.extract 0 m).getD j false = listed.getD j false := fun j hj => by
      rw [Array.getD_eq_getD_getElem?, Array.getD_eq_getD_getElem?, Array.getElem?_extract, if_pos (by omega), Nat.zero_add]
    have hset : (listed.setIfInBounds i true).extract 0 m = (listed.extract 0 m).setIfInBounds i true := by
      refine Array.ext_getElem? fun j => ?_
      rw [Array.getElem?_extract]
      by_cases hj : j < m
      · rw [if_pos (by simp; omega), Nat.zero_add]
        by_cases e : i = j
        · subst e
          rw [Array.getElem?_setIfInBounds_self_of_lt (by omega), Array.getElem?_setIfInBounds_self_of_lt (by simp; omega)]
        · rw [Array.getElem?_setIfInBounds_ne e, Array.getElem?_setIfInBounds_ne e, Array.getElem?_extract, if_pos (by omega), Nat.zero_add]
      · rw [if_neg (by omega), Array.getElem?_eq_none (by simp; omega)]
    rcases hst a w hI.ext (fun i' d hw hd' => by
        obtain ⟨o', h1, h2⟩ := dstIs_spec hd'
        have hi' : i' < i := by
          obtain ⟨e, he, h2⟩ := Array.any_eq_true'.1 hw
          simp only [Bool.and_eq_true, beq_iff_eq] at h2
          rw [← h2.1]; exact hdep i o e him ho (by simpa using he) h2.2
        refine hI.slot i' o' d ?_ (hpo i' o' (by omega) h1) h2
        rw [hext i' (by omega)]; exact waitsFor_spec hw hd) (fun s h => hI.base s (freeSlot_spec h)) with ⟨h1, h2⟩ | ⟨h1, h2⟩
    · refine wpOp_step' ho h1 (h2 _ fun v w' hv hx => ⟨by simpa using hI0, ?_⟩)
      rw [hset]
      exact hI.put hok (facts_mono mono) (by simp; omega) ho' hv hx
    · refine wpOp_skip' ho h1 ⟨by simpa using hI0, ?_⟩
      rw [hset]
      exact hI.put hok (facts_mono mono) (by simp; omega) ho' h2 (Ext.refl _)
  · rintro listed a w hs ⟨hI0, hI⟩ hr
    have : ∀ (k j : Nat), j < k → j < m → listed.getD j false = true := by
      intro k
      induction k with
      | zero => intro j h; omega
      | succ k ih =>
        intro j h1 h2
        by_cases hl : listed.getD j false = true
        · exact hl
        · exfalso
          have hj : l.toArray[j]? = some l.toArray[j] := Array.getElem?_eq_getElem (by omega)
          have hmem : j ∈ Region.ready .any l.toArray listed := by
            unfold Region.ready
            refine List.mem_filter.2 ⟨List.mem_range.2 (by omega), ?_⟩
            rw [hj]
            simp only [Bool.and_eq_true, Option.map_some, Option.getD_some]
            refine ⟨?_, Array.all_eq_true'.2 fun e he => ?_⟩
            · have h2' : j < listed.size := by omega
              simp only [Array.getD, h2', dif_pos] at hl ⊢
              simpa using hl
            · cases hbd : Region.binds .any e with
              | false => rfl
              | true =>
                have he' := hdep j _ e h2 hj (by simpa using he) hbd
                rw [ih e.on (by omega) (by omega)]; rfl
          rw [hr] at hmem; cases hmem
    exact fun j hj => this (j + 1) j (Nat.lt_succ_self j) hj
  · rintro a w ⟨-, hI⟩
    have hx := rest w hI.ext
    obtain ⟨vs, g1, g2, g3⟩ := forFacts_get (a := a) (os := l.take m) (by rw [hfl, hlt]) hx (fun j o hj => by
      obtain ⟨d, h1, h2, -, -⟩ := flow_dst hok (by simpa using hj)
      have hjm : j < m := by have := (List.getElem?_eq_some_iff.1 hj).1; omega
      obtain ⟨v, k1, k2⟩ := hI.slot j o d (by
        rw [Array.getD_eq_getD_getElem?, Array.getElem?_extract]
        rw [if_pos (by simp [preL]; omega)]
        simp [preL, List.getElem?_append, hjm]) (by simpa using hj) h1
      exact ⟨d, v, h1, k1, k2⟩)
    have ha : a = putAll a0 (l.take m) vs := eq_putAll g1 hI.size hI.defers (fun s hs => hI.base s (fun j o ho => hs o (by
        have : (l.take m)[j]? = some o := by simpa using ho
        exact List.mem_of_getElem? this))) (fun j o d hj hd => by
      obtain ⟨d', h1, h2, -, -⟩ := flow_dst hok (j := j) (by simpa using hj)
      rw [hd] at h1; injection h1 with h1; subst h1
      exact ⟨h2, g3 j o d hj hd⟩)
    rw [ha]; exact g2
  · rw [Array.toList_replicate, List.count_replicate]; simp; omega
  · intro j hj
    rw [Array.getD_eq_getD_getElem?, Array.getElem?_replicate]
    split <;> rfl
  · exact ⟨by simpa using hsz, ⟨(Ext.refl W0).drew, rfl, rfl, fun s _ => rfl, fun j o d h _ _ => by
      rw [Array.getD_eq_getD_getElem?, Array.getElem?_extract] at h
      split at h
      · rw [Array.getElem?_replicate] at h; split at h <;> cases h
      · cases h⟩⟩
end Go.Proofs.Ytlafiddfplhafaa
/- Settle walked. -/
namespace Go.Proofs.Ytlafiddfplhafaa
set_option linter.unusedVariables false
set_option linter.unusedSimpArgs false
open Go.RowKit
def fillV (k n : Nat) : List Int := List.replicate k 2 ++ List.replicate (n - k) 0
theorem fillV_set {k n : Nat} (h : k < n) : (fillV k n).set k 2 = fillV (k + 1) n := by
  unfold fillV
  rw [List.set_append_right _ _ (by simp)]
  simp only [List.length_replicate, Nat.sub_self]
  rw [show n - k = (n - (k + 1)) + 1 from by omega, List.replicate_succ, List.set_cons_zero]
  simp [List.replicate_succ', List.append_assoc]
theorem fillV_end (n : Nat) : fillV n n = opensM n := by simp [fillV, opensM]
def upTo (k : Nat) : List Int := (List.range k).map (fun (j : Nat) => (j : Int))
theorem upTo_succ (k : Nat) : upTo (k + 1) = upTo k ++ [(k : Int)] := by simp [upTo, List.range_succ]
set_option maxRecDepth 100000 in
set_option maxHeartbeats 4000000 in
theorem settle_any (i : Int) (GA : Option Addr) (gn gc : Nat) (RA : Option Addr) (rn rc : Nat) (OA : Option Addr) (on oc : Nat) (N : NetM) (RB : Option Addr) (pn pc : Nat) (IA : Option Addr) (jn jc : Nat) (regs ins : List Int) (w : World)
    (h : NetC w i GA gn gc RA rn rc OA on oc N) (hr : Sl w RB pn (regs.map I)) (hi : Sl w IA jn (ins.map I)) (ak : AskedOK N regs ins) :
    Calls Try.prog 54 #[netV i GA gn gc RA rn rc OA on oc, handV RB pn pc IA jn jc] w fun e w' => ∃ v, e = .returned v ∧ w'.ownsRow w.heap.size 3 1 v gn ((settledM N.gates regs ins).map I) ∧ Ext w w' := by
  have hgl : N.gates.length = gn := h.gates.1
  have hg200 : gn ≤ 200 := by have := ak.net.gl; omega
  obtain ⟨W1, hW1⟩ : ∃ W, W = w.alloc (.cells #[I i, .slice GA gn gc, .slice RA rn rc, .slice OA on oc] 39) := ⟨_, rfl⟩
  obtain ⟨W, hW⟩ : ∃ W, W = W1.alloc (.cells #[.slice RB pn pc, .slice IA jn jc] 110) := ⟨_, rfl⟩
  have hx1 : Ext w W1 := by rw [hW1]; exact (Ext.refl _).alloc _
  have hbox1 : NetBox W1 w.heap.size i GA gn gc RA rn rc OA on oc := by rw [hW1]; exact NetBox.new w i GA gn gc RA rn rc OA on oc _
  obtain ⟨p0, p1, x2⟩ := box2 W1 _ _ _ hW
  have hs1 : W1.heap.size = w.heap.size + 1 := by rw [hW1]; simp
  have hsz : W.heap.size = w.heap.size + 1 + 1 := by rw [hW]; simp [hs1]
  rw [hs1] at p0 p1
  have hW2 : W = (w.alloc (.cells #[I i, .slice GA gn gc, .slice RA rn rc, .slice OA on oc] 39)).alloc (.cells #[.slice RB pn pc, .slice IA jn jc] 110) := by rw [hW, hW1]
  have hxW := hx1.trans x2
  have HN := Lib.hid (h.keep hxW.keeps); have HBox := Lib.hid (hbox1.keep x2.keeps); have HW := Lib.hid hW2; have HX := Lib.hid hxW; have HAK := Lib.hid ak
  have HR := Lib.hid (hr.keep hxW.keeps); have HI := Lib.hid (hi.keep hxW.keeps)
  have HP : Hid (W.cell? ⟨w.heap.size + 1, 0, none⟩ = some (.slice RB pn pc) ∧ W.cell? ⟨w.heap.size + 1, 1, none⟩ = some (.slice IA jn jc)) := ⟨p0, p1⟩
  have hmk := fun Q => run_make1 (P := Try.prog) 23 3 tab_int' Try.underlying23 rfl gn (by omega) (by omega) Q
  have hown0 : (W.alloc (.cells (zeros (.int .i64 0) gn) 3)).ownsRow W.heap.size 3 1 (.slice (some ⟨w.heap.size + 1 + 1, 0, none⟩) gn gn) gn ((fillV 0 gn).map I) := by
    have := own_made W 3 (.int .i64 0) gn W.heap.size (Nat.le_refl _) (by unfold maxLen; omega)
    rw [show (fillV 0 gn).map I = List.replicate gn (.int .i64 0) from by simp [fillV]]
    rw [← hsz]; exact this
  have HO0 := Lib.hid hown0; have HSZ := Lib.hid hsz
  clear h hr hi ak hW hW1 hW2 hx1 x2 hxW hbox1 p0 p1 hs1 hsz hown0
  go_enter Try.func54, Try.ntmps54
  go_wp2_with fail
  rw [← HW.out]
  go_wp2_with fail
  clear hmk
  go_loopw [6, 16] (fun s j wr => ∃ k : Nat, k ≤ gn ∧ j = .int .i64 k ∧ Ext W wr ∧ wr.ownsRow W.heap.size 3 1 (.slice (some ⟨w.heap.size + 1 + 1, 0, none⟩) gn gn) gn ((fillV k gn).map I) ∧ wr.ownsRow W.heap.size 3 1 s k ((upTo k).map I) ∧ s.ownBlock ≠ some (w.heap.size + 1 + 1)) (fun _ j _ => gn - (intOf j).toNat)
  case atStart => exact ⟨0, Nat.zero_le _, rfl, (Ext.refl _).alloc _, HO0.out, World.ownsRow_nil _ _ _ _, by simp [Value.ownBlock]⟩
  case round =>
    obtain ⟨k, hk, rfl, hext, hv, hs, hne⟩ := hrel
    by_cases hlt : k < gn
    · obtain ⟨⟨u, hu, hc⟩, hf, -⟩ := own_at hv hlt
      have hsv := (hv.stored k (I 2)).1
      have hset : ((fillV k gn).map I).set k (I 2) = (fillV (k + 1) gn).map I := by rw [← fillV_set hlt, List.map_set]
      rw [hset] at hsv
      have hs2 := own_other (g := w.heap.size + 1 + 1) (j := k) (u := I 2) hs hne
      have hxs : Ext W (wr.setCell ⟨w.heap.size + 1 + 1, k, none⟩ (I 2)) := hext.setCell (by show W.heap.size ≤ w.heap.size + 1 + 1; exact Nat.le_of_eq HSZ.out) _
      have HV := Lib.hid hsv; have HS := Lib.hid hs2; have HXS := Lib.hid hxs; have HNE := Lib.hid hne
      clear hv hs hext hset hsv hs2 hxs hne hu
      go_wp2_with (at_builtin; refine wpList_appendBig rfl (.tmp 22) (.tmp 24) 23 3 rfl tab_int' Try.underlying23 rfl (by omega) W (HXS.out.alloc _) _ k _ rfl (own_ext HS.out ((Ext.refl _).alloc _)) (some ⟨_, 0, none⟩) 1 1 [I k] rfl (Sl.newAt _ _ [I k] _ (by simp)) (by simp [Value.oneCell']) (by omega) (by omega) ?_; intro v' w2 hown2 hx3 hg3 hf3)
      go_roundw
      case rel =>
        refine ⟨k + 1, by omega, by go_num, hx3, ?_, by rw [upTo_succ]; simpa using hown2, ?_⟩
        · exact (own_ext HV.out ((Ext.refl _).alloc _)).kept hg3 (.inr (fun e => HNE.out e.symm))
        · intro e
          rcases hf3 _ e with q | q
          · exact HNE.out q
          · have := (HV.out.lt _ rfl).2; simp at q; simp at this; omega
      case measure => simp [intOf]; omega
    · have hkn : k = gn := by omega
      subst hkn
      clear hlt hk
      have q0 := (HBox.out.keep hext.keeps)
      obtain ⟨q0, q1, q2, q3⟩ := q0
      have HV := Lib.hid hv; have HS := Lib.hid hs; have HE := Lib.hid hext; have HNE := Lib.hid hne
      clear hv hs hext hne
      go_wp2_with fail
      refine (users_any i GA k gc RA rn rc OA on oc N wr (HN.out.keep HE.out.keeps) HAK.out.net).mono ?_; rintro e w1 ⟨gu, us, rfl, hus, x3⟩
      have hv1 := own_ext HV.out x3
      have hs1 := own_ext HS.out x3
      have hx1 := HE.out.trans x3
      have hulo := (hus.row.lt gu rfl)
      obtain ⟨b0, hb0, hbn, hbe, hba⟩ := pick_block (s := u6) (gv := w.heap.size + 1 + 1) (lo := wr.heap.size) (hi := w1.heap.size) (B := W.heap.size) HNE.out (HS.out.lt) ((hv1.lt _ rfl).2) hx1.size
      have hc0 := costV_le (usersM N.gates) (opensM k)
      have ht0 := total_users 16 N.gates HAK.out.net.al
      have HV1 := Lib.hid hv1; have HS1 := Lib.hid hs1; have HX1 := Lib.hid hx1; have HUS := Lib.hid hus; have HB0 := Lib.hid hb0; have HBN := Lib.hid hbn; have HBE := Lib.hid hbe; have HBA := Lib.hid hba
      have hm0 : k + costV (usersM N.gates) (opensM k) ≤ 3400 := by rw [hgl] at ht0; omega
      have HM0 := Lib.hid hm0
      have hgv := (HV.out.lt _ rfl).2
      have HGV := Lib.hid hgv; clear hgv
      clear hv1 hs1 hx1 x3 hus hulo hb0 hbn hbe hba hc0 ht0 hm0 HV HS HNE HO0 q0 q1 q2 q3
      go_wp2_with fail
      go_loopg [6] 3400 (fun gk s wr2 => ∃ vv work : List Int, Aside (w.heap.size + 1 + 1) b0 w1 wr2 ∧ wr2.ownsRow W.heap.size 3 1 (.slice (some ⟨w.heap.size + 1 + 1, 0, none⟩) k k) k (vv.map I) ∧ OwnQ wr2 W.heap.size 3 s (work.map I) ∧
        (∀ b, s.ownBlock = some b → b = b0 ∨ w1.heap.size ≤ b) ∧ SInv N.gates regs ins vv work ∧ work.length + costV (usersM N.gates) vv ≤ gk ∧ gk ≤ 3400)
      case atStart =>
        refine ⟨opensM k, upTo k, Aside.refl _ _ _, by rw [← fillV_end]; exact HV1.out, OwnQ.of_own HS1.out, fun b hb => .inl (HB0.out b hb), ?_, by have := HM0.out; simp [upTo]; omega, Nat.le_refl _⟩
        have := SInv.start N.gates regs ins (upTo k) (fun j => by
          rw [hgl]; simp only [upTo, List.mem_map, List.mem_range]
          constructor
          · rintro ⟨a, ha, rfl⟩; omega
          · rintro ⟨h0, h1⟩; exact ⟨j.toNat, by omega, by omega⟩)
        rw [hgl] at this; exact this
      case round =>
        obtain ⟨vv, work, hoff, hvr, hq, hqb, hinv, hm, hmx⟩ := hrel
        cases work with
        | nil =>
          obtain ⟨A, c, rfl, -, -, -⟩ := hq.slice
          have hvv := hinv.done
          subst hvv
          have HVR := Lib.hid hvr
          have HX2 := Lib.hid (HX.out.trans (hoff.ext HX1.out (Nat.le_of_eq HSZ.out) HBE.out))
          clear hoff hvr hq hqb hinv hm hmx
          go_wp2
          go_ret
          exact ⟨_, rfl, own_base HVR.out HX.out.size, HX2.out⟩
        | cons y ys =>
          obtain ⟨g, off, c, rfl, hc1, hcm, hcell, htail⟩ := hq.tail
          simp only [List.length_map] at hc1 htail
          have hrg := hinv.ws y (by simp)
          rw [hgl] at hrg
          obtain ⟨j, rfl⟩ : ∃ j : Nat, y = j := ⟨y.toNat, by omega⟩
          have hj : j < k := by omega
          obtain ⟨b, offg, A', m, c', gt, rfl, g0, g1, g2, hsg, hmc, hcm2, hd, hgt⟩ := HN.out.gates.next hj
          have hxr : Ext W wr := hoff.ext HX1.out (Nat.le_of_eq HSZ.out) HBE.out
          obtain ⟨⟨u, hu, hcv⟩, hfv, -⟩ := own_at hvr hj
          rw [List.getElem?_map] at hu
          obtain ⟨x, hxv, rfl⟩ : ∃ x, vv[j]? = some x ∧ u = I x := by
            cases hz : vv[j]? with
            | none => rw [hz] at hu; cases hu
            | some x => rw [hz] at hu; exact ⟨x, rfl, by simpa using hu.symm⟩
          have hval := valI_at hxv
          have HT := Lib.hid htail; have HV := Lib.hid hvr; have HQB := Lib.hid hqb; have HIN := Lib.hid hinv; have HM := Lib.hid hm; have HMX := Lib.hid hmx; have HOFF := Lib.hid hoff; have HXR := Lib.hid hxr
          have HSG := Lib.hid hsg; have HGT := Lib.hid hgt; have HVAL := Lib.hid hval; have HXV := Lib.hid hxv
          have k0 := hxr.keeps _ _ g0; have k1 := hxr.keeps _ _ g1; have k2 := hxr.keeps _ _ g2
          have hcc := hc1
          clear hvr hqb hinv hm hmx hoff hsg hgt hval hxv hu htail hd hmc hcm2 g0 g1 g2 hrg hq
          go_upto_region 12 with fail
          go_cut [6] (fun s wx => ∃ off' c', s = .slice (some ⟨g, off', none⟩) ys.length c' ∧ wx = wr ∧ OwnQ wr W.heap.size 3 (.slice (some ⟨g, off', none⟩) ys.length c') (ys.map I))
          case first =>
            by_cases h1 : c = 1
            · subst h1
              have ht := HT.out
              rw [if_pos rfl] at ht
              obtain rfl : ys = [] := List.eq_nil_of_length_eq_zero (by omega)
              go_wp2_with fail
              go_meet
              exact ⟨_, 0, rfl, rfl, ht⟩
            · have ht := HT.out
              rw [if_neg h1] at ht
              go_wp2_with fail
              go_meet
              exact ⟨_, _, rfl, rfl, ht⟩
          case rest =>
          obtain ⟨off', c2, rfl, rfl, hq2⟩ := hcut
          have HQ2 := Lib.hid hq2
          clear hq2 HT
          by_cases hx : x = 2
          · subst hx
            have hgr := HAK.out.net.gate (List.mem_of_getElem? HGT.out)
            rw [hgl] at hgr
            have hil := HAK.out.il; have hrl := HAK.out.rl
            have hjn : jn = N.ins.toNat := by have := HI.out.len; omega
            have hpn : pn = N.regs.length := by have := HR.out.len; omega
            rw [← hjn, ← hpn] at hgr
            have HGR := Lib.hid hgr
            have hp := HP.out
            have p0 := HXR.out.keeps _ _ hp.1; have p1 := HXR.out.keeps _ _ hp.2
            have q1 := ((HBox.out.keep HXR.out.keeps)).2.1
            generalize hX : worthM regs ins vv gt = X
            have hof : ∀ Q, Ext wc Q → Calls Try.prog 87 #[handV RB pn pc IA jn jc, gateV gt.kind gt.num A' m c', .slice (some ⟨w.heap.size + 1 + 1, 0, none⟩) k k] Q fun e w' => e = .returned (I X) ∧ Ext Q w' := fun Q hQ => by
              rw [← hX]
              exact handOf_any RB pn pc IA jn jc A' m c' (some ⟨w.heap.size + 1 + 1, 0, none⟩) k k regs ins vv gt Q ((HR.out.keep HXR.out.keeps).keep hQ.keeps) ((HI.out.keep HXR.out.keeps).keep hQ.keeps) ((HSG.out.keep HXR.out.keeps).keep hQ.keeps)
                (by obtain ⟨A5, c5, e5, -, -, hsl⟩ := own_sl HV.out; injection e5 with e5 _ _; rw [e5]; exact hsl.keep hQ.keeps) hgr HIN.out.good
            have HOF := Lib.hid hof; have HEX := Lib.hid hX
            have P0 := Lib.hid p0; have P1 := Lib.hid p1; have Q1 := Lib.hid q1; have K0 := Lib.hid k0; have K1 := Lib.hid k1; have K2 := Lib.hid k2
            clear hgr hil hrl hjn hpn hp hof hX p0 p1 q1 k0 k1 k2
            go_upto_region 14 with fail
            refine wp_flow3 10 2 [isV (.slice (some ⟨w.heap.size + 1 + 1, 0, none⟩) k k), isV (.int .i64 j), isV (.agg #[.slice RB pn pc, .slice IA jn jc]), isV (.pointer (some ⟨w.heap.size, 1, none⟩)), isV (.slice (some ⟨b, offg, none⟩) k gc), isV (.int .i64 j), isV (.pointer (some ⟨b, offg + j * 3, none⟩)), isV (.agg #[I gt.kind, I gt.num, .slice A' m c']), isV (.slice (some ⟨w.heap.size + 1 + 1, 0, none⟩) k k), isV (.int .i64 X)] (by kernel_rfl) rfl rfl (by kernel_rfl) (by kernel_rfl) ⟨isV_mono, isV_mono, isV_mono, isV_mono, isV_mono, isV_mono, isV_mono, isV_mono, isV_mono, isV_mono, trivial⟩ ?each ?rest
            case each =>
              refine .cons ?_ (.cons ?_ (.cons ?_ (.cons ?_ (.cons ?_ (.cons ?_ (.cons ?_ (.cons ?_ (.cons ?_ (.cons ?_ (.nil))))))))))
              · intro fa fw hx hs hb
                have s5 : fa.tmps[(5 : Nat)]? = some (.slice (some ⟨w.heap.size + 1 + 1, 0, none⟩) k k) := (hb 5 (by kernel_rfl)).trans (by rfl)
                refine .inl ⟨wanted_free rfl, fun K hK => ?_⟩
                clear hs hb hx
                go_simp
                exact hK _ _ rfl (Ext.refl _)
              · intro fa fw hx hs hb
                have s9 : fa.tmps[(9 : Nat)]? = some (.int .i64 j) := (hb 9 (by kernel_rfl)).trans (by rfl)
                refine .inl ⟨wanted_free rfl, fun K hK => ?_⟩
                clear hs hb hx
                go_simp
                exact hK _ _ rfl (Ext.refl _)
              · intro fa fw hx hs hb
                have s3 : fa.tmps[(3 : Nat)]? = some (.pointer (some ⟨w.heap.size + 1, 0, none⟩)) := (hb 3 (by kernel_rfl)).trans (by rfl)
                have c0 := hx.keeps _ _ P0.out
                have c1 := hx.keeps _ _ P1.out
                refine .inl ⟨wanted_free rfl, fun K hK => ?_⟩
                clear hs hb hx
                go_simp
                exact hK _ _ rfl (Ext.refl _)
              · intro fa fw hx hs hb
                have s2 : fa.tmps[(2 : Nat)]? = some (.pointer (some ⟨w.heap.size, 0, none⟩)) := (hb 2 (by kernel_rfl)).trans (by rfl)
                refine .inl ⟨wanted_free rfl, fun K hK => ?_⟩
                clear hs hb hx
                go_simp
                exact hK _ _ rfl (Ext.refl _)
              · intro fa fw hx hs hb
                obtain ⟨_, s45, rfl⟩ := hs 3 45 (by kernel_rfl) (by kernel_rfl)
                have c0 := hx.keeps _ _ Q1.out
                refine .inl ⟨wanted_free rfl, fun K hK => ?_⟩
                clear hs hb hx
                go_simp
                exact hK _ _ rfl (Ext.refl _)
              · intro fa fw hx hs hb
                have s9 : fa.tmps[(9 : Nat)]? = some (.int .i64 j) := (hb 9 (by kernel_rfl)).trans (by rfl)
                refine .inl ⟨wanted_free rfl, fun K hK => ?_⟩
                clear hs hb hx
                go_simp
                exact hK _ _ rfl (Ext.refl _)
              · intro fa fw hx hs hb
                obtain ⟨_, s46, rfl⟩ := hs 4 46 (by kernel_rfl) (by kernel_rfl)
                obtain ⟨_, s47, rfl⟩ := hs 5 47 (by kernel_rfl) (by kernel_rfl)
                refine .inl ⟨wanted_free rfl, fun K hK => ?_⟩
                clear hs hb hx
                go_simp
                exact hK _ _ rfl (Ext.refl _)
              · intro fa fw hx hs hb
                obtain ⟨_, s48, rfl⟩ := hs 6 48 (by kernel_rfl) (by kernel_rfl)
                have c0 := hx.keeps _ _ K0.out
                have c1 := hx.keeps _ _ K1.out
                have c2 := hx.keeps _ _ K2.out
                refine .inl ⟨wanted_free rfl, fun K hK => ?_⟩
                clear hs hb hx
                go_simp
                exact hK _ _ rfl (Ext.refl _)
              · intro fa fw hx hs hb
                have s5 : fa.tmps[(5 : Nat)]? = some (.slice (some ⟨w.heap.size + 1 + 1, 0, none⟩) k k) := (hb 5 (by kernel_rfl)).trans (by rfl)
                refine .inl ⟨wanted_free rfl, fun K hK => ?_⟩
                clear hs hb hx
                go_simp
                exact hK _ _ rfl (Ext.refl _)
              · intro fa fw hx hs hb
                obtain ⟨_, s44, rfl⟩ := hs 2 44 (by kernel_rfl) (by kernel_rfl)
                obtain ⟨_, s49, rfl⟩ := hs 7 49 (by kernel_rfl) (by kernel_rfl)
                obtain ⟨_, s50, rfl⟩ := hs 8 50 (by kernel_rfl) (by kernel_rfl)
                refine .inl ⟨wanted_free rfl, fun K hK => ?_⟩
                clear hs hb
                go_simp
                refine (HOF.out _ hx).mono ?_
                rintro e w' ⟨rfl, xq⟩
                exact hK _ _ rfl xq
            case rest =>
              intro w2 hxw2
              rintro _ rfl
              rintro _ rfl
              rintro _ rfl
              rintro _ rfl
              rintro _ rfl
              rintro _ rfl
              rintro _ rfl
              rintro _ rfl
              rintro _ rfl
              rintro _ rfl
              simp only [putAll, List.take, Act.put, List.setIfInBounds_toArray, List.set_cons_zero, List.set_cons_succ]
              refine wpAny_ready (rs := [10]) (by kernel_rfl) (by simp) (AllReady.cons rfl (fun KK hKK => ?_) AllReady.nil)
              have x6 := hxw2
              have hv2 := own_ext HV.out x6
              obtain ⟨⟨u, hu2, hcv2⟩, hfv2, -⟩ := own_at hv2 hj
              clear hcell hcv hfv
              go_simp
              refine hKK _ _ ?_
              clear hKK KK
              refine wpAny_ready (rs := [11]) (by kernel_rfl) (by simp) (AllReady.cons rfl (fun KK hKK => ?_) AllReady.nil)
              go_simp
              refine hKK _ _ ?_
              clear hKK KK
              refine wpAny_done (by kernel_rfl) ?_ _
              have hset := fun hx => HIN.out.settle (g := gt) HAK.out.rg HAK.out.ig (by rw [hgl]; exact fun g hg a ha => by have := (HAK.out.net.gate hg).args a ha; rw [hgl] at this; exact this) (by simpa using HGT.out) HVAL.out hx
              have hnone := fun hx => HIN.out.none (g := gt) (by simpa using HGT.out) hx
              rw [HEX.out] at hset hnone
              have hq3 := (HQ2.out.ext x6)
              have hqn : (Value.slice (some ⟨g, off', none⟩) ys.length c2).ownBlock ≠ some (w.heap.size + 1 + 1) := by
                intro e
                have e : g = w.heap.size + 1 + 1 := Option.some.inj e
                rcases HQB.out g rfl with q | q
                · exact HBN.out (q.symm.trans e)
                · have := (HV1.out.lt _ rfl).2; simp at this; omega
              have hq4 := hq3.kept (grownBy_set w2 (w.heap.size + 1 + 1) j (I X)) (.inr hqn)
              have hv3 := (hv2.stored j (I X)).1
              rw [← List.map_set] at hv3
              have hoff3 := (HOFF.out.more x6).set1 j (I X)
              have HS := Lib.hid hset; have HNO := Lib.hid hnone; have HQ4 := Lib.hid hq4; have HV3 := Lib.hid hv3; have HOFF3 := Lib.hid hoff3
              clear hset hnone hq3 hqn hq4 hv2 hv3 hoff3 hu2 x6 hxw2
              by_cases hX2 : X = 2
              · subst hX2
                go_wp2
                go_roundg (ys.length + costV (usersM N.gates) vv)
                case measure => have := HM.out; simp at this; omega
                case rel => exact ⟨vv, ys, HOFF3.out, by have := HV3.out; rwa [set_same HXV.out] at this, HQ4.out, HQB.out, HNO.out trivial, Nat.le_refl _, by have := HM.out; have := HMX.out; simp at *; omega⟩
              · have hxb : (X != 2) = true := by simpa using hX2
                have HXX := Lib.hid hX2; clear hX2
                obtain ⟨v, uu, hvs, huu, hcu, hfu, hou, hbu⟩ := HUS.out.get hj
                obtain ⟨A6, c6, rfl, h61, h62, hs6⟩ := own_sl hou
                have hgu := HUS.out.row.lt gu rfl
                have hg1 : gu ≠ w.heap.size + 1 + 1 := by have := HGV.out; have := hgu.1; omega
                have hg2 : gu ≠ b0 := HBA.out gu hgu.1 hgu.2
                have hcu3 := HOFF3.out.cell hcu hg1 hg2
                have hs7 := hs6.aside HOFF3.out (fun p e => by
                  have hb := hou.lt p.block (by rw [e]; rfl)
                  exact ⟨by have := HGV.out; have := hb.1; omega, HBA.out _ hb.1 hb.2⟩)
                have hcost := costV_set (usersM N.gates) vv j uu X huu HXV.out HXX.out
                have huse : useI (usersM N.gates) (j : Int) = uu := by simp [useI, huu]
                have hbase : W.heap.size ≤ (w2.setCell ⟨w.heap.size + 1 + 1, j, none⟩ (I X)).heap.size := (HOFF3.out.ext HX1.out (Nat.le_of_eq HSZ.out) HBE.out).size
                have hbd : (ys.map I).length + uu.length ≤ 3400 := by have := HM.out; have := HMX.out; simp at *; omega
                have HS7 := Lib.hid hs7; have HCO := Lib.hid hcost; have HUSE := Lib.hid huse; have HBS := Lib.hid hbase; have HBD := Lib.hid hbd
                clear hou hcu hfu hs6 hgu hg1 hg2 hs7 hcost huse hbase hbd hvs huu hbu h61 h62
                go_wp2_with (at_builtin; refine wpList_appendQ rfl (.tmp 58) (.tmp 62) 23 3 rfl tab_int' Try.underlying23 rfl (by omega) W.heap.size HBS.out _ (ys.map I) rfl HQ4.out A6 uu.length c6 _ rfl HS7.out (ints_one uu) (by have := HBD.out; omega) (by have := HBD.out; omega) ?_; intro v' w4 hown4 hg4 hf4)
                go_roundg ((ys ++ uu).length + costV (usersM N.gates) (vv.set j X))
                case measure => have := HM.out; have := HCO.out; simp at *; omega
                case rel =>
                  refine ⟨vv.set j X, ys ++ uu, HOFF3.out.grown hg4 (HQB.out), HV3.out.kept hg4 (.inr fun e => ?_), by rw [List.map_append]; exact hown4, fun b hb => ?_, ?_, Nat.le_refl _, ?_⟩
                  · have e : g = w.heap.size + 1 + 1 := (Option.some.inj e).symm
                    rcases HQB.out g rfl with q | q
                    · exact HBN.out (q.symm.trans e)
                    · have := (HV1.out.lt _ rfl).2; simp at this; omega
                  · rcases hf4 b hb with q | q
                    · exact HQB.out b q
                    · exact .inr (Nat.le_trans HOFF3.out.size q)
                  · have := HS.out HXX.out; rw [HUSE.out] at this; simpa using this
                  · have := HM.out; have := HMX.out; have := HCO.out; simp at *; omega
          · have hxb : (x != 2) = true := by simpa using hx
            have HX2 := Lib.hid hx
            clear hx k0 k1 k2
            go_wp2
            go_roundg (ys.length + costV (usersM N.gates) vv)
            case measure => have := HM.out; simp at this; omega
            case rel => exact ⟨vv, ys, HOFF.out, HV.out, HQ2.out, HQB.out, HIN.out.skip (by rw [HVAL.out]; exact HX2.out), Nat.le_refl _, by have := HM.out; have := HMX.out; simp at *; omega⟩
end Go.Proofs.Ytlafiddfplhafaa
