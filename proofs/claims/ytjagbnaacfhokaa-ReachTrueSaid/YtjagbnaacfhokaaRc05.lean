/- Whom each gate serves: users walked. -/
import Derived.Test.YtjagbnaacfhokaaRc03
import Derived.Test.YtjagbnaacfhokaaRc04
import Derived.Test.YtjagbnaacfhokaaRc01
import Derived.Orders
namespace Go.Proofs.Ytjagbnaacfhokaa
set_option linter.unusedVariables false
set_option linter.unusedSimpArgs false
open Go.RowKit

theorem tab_ints : (Try.prog.info? 24).map (fun i => (i.zero, i.size, i.bytes)) = some (some (.slice none 0 0), 1, 24) := by kernel_rfl

set_option maxRecDepth 100000 in
set_option maxHeartbeats 4000000 in
theorem users_any (i : Int) (GA : Option Addr) (gn gc : Nat) (RA : Option Addr) (rn rc : Nat) (OA : Option Addr) (on oc : Nat) (N : NetM) (w : World) (h : NetC w i GA gn gc RA rn rc OA on oc N) (ok : NetOK N) :
    Calls Try.prog 117 #[netV i GA gn gc RA rn rc OA on oc] w fun e w' => ∃ g0 vs, e = .returned (.slice (some ⟨g0, 0, none⟩) gn gn) ∧ Rows2 24 3 w' w.heap.size g0 gn (usersM N.gates) vs ∧ Ext w w' := by
  have hgl : N.gates.length = gn := h.gates.1
  have hg200 : gn ≤ 200 := by have := ok.gl; omega
  obtain ⟨W, hW⟩ : ∃ W, W = w.alloc (.cells #[I i, .slice GA gn gc, .slice RA rn rc, .slice OA on oc] 26) := ⟨_, rfl⟩
  have hxW : Ext w W := by rw [hW]; exact (Ext.refl _).alloc _
  have hbox : NetBox W w.heap.size i GA gn gc RA rn rc OA on oc := by rw [hW]; exact NetBox.new w i GA gn gc RA rn rc OA on oc _
  have HN := Lib.hid (h.keep hxW.keeps); have HBox := Lib.hid hbox; have HW := Lib.hid hW; have HX := Lib.hid hxW; have HOK := Lib.hid ok
  have hmk := fun Q => run_make1 (P := Try.prog) 57 24 tab_ints Try.underlying57 rfl gn (by omega) (by omega) Q
  have hsz : W.heap.size = w.heap.size + 1 := by rw [hW]; simp
  have hst := Rows2.start (E := 24) (T := 3) (n := gn) (base := W.heap.size) W (Nat.le_refl _) (by unfold maxLen; omega) (w.heap.size + 1) hsz.symm
  have HSZ := Lib.hid hsz
  have HST := Lib.hid hst
  clear h hW hxW hbox hst ok hsz
  go_enter Try.func117, Try.ntmps117
  go_wp2_with fail
  rw [← HW.out]
  go_wp2_with fail
  clear hmk
  go_loopw [15] (fun j wr => ∃ (k : Nat) (U : List (List Int)) (vs : List Value), k ≤ gn ∧ j = .int .i64 k ∧ Ext W wr ∧ Rows2 24 3 wr W.heap.size (w.heap.size + 1) gn U vs ∧ usersFrom (N.gates.drop k) k U = usersM N.gates ∧ totalU U ≤ 16 * k) (fun j _ => gn - (intOf j).toNat)
  case atStart => exact ⟨0, _, _, Nat.zero_le _, rfl, (Ext.refl _).alloc _, HST.out, by unfold usersM; rw [HN.out.gates.1]; rfl, by simp [totalU]⟩
  case round =>
    obtain ⟨k, U, vs, hk, rfl, hext, hrows, hM, htot⟩ := hrel
    by_cases hlt : k < gn
    · obtain ⟨b, off, A', m, c', g, rfl, g0, g1, g2, hs, hmc, hcm, hd, hgk⟩ := HN.out.gates.next hlt
      have hgm : g ∈ N.gates := List.mem_of_getElem? hgk
      have hgr := HOK.out.gate hgm
      rw [HN.out.gates.1] at hgr
      have c0 := hext.keeps _ _ g0; have c1 := hext.keeps _ _ g1; have c2 := hext.keeps _ _ g2
      rw [hd] at hM
      have HM := Lib.hid hM; have HS := Lib.hid hs; have HRows := Lib.hid hrows; have HGR := Lib.hid hgr; have HT := Lib.hid htot; have HE := Lib.hid hext
      have hm16 : m ≤ 16 := by have := hs.len; have := hgr.al; omega
      clear hM hs hrows hgr htot hext g0 g1 g2 hd hgk hgm hmc hcm
      go_wp2_with fail
      have hxg : Ext W (wr.alloc (.cells #[I g.kind, I g.num, .slice A' m c'] 34)) := HE.out.alloc _
      have hrg := HRows.out.ext ((Ext.refl wr).alloc (.cells #[I g.kind, I g.num, .slice A' m c'] 34))
      have HXG := Lib.hid hxg; have HRG := Lib.hid hrg
      clear hxg hrg HRows c0 c1 c2 HE
      go_loopw [23] (fun j wr2 => ∃ (q : Nat) (U2 : List (List Int)) (vs2 : List Value), q ≤ m ∧ j = .int .i64 q ∧ Ext W wr2 ∧ Rows2 24 3 wr2 W.heap.size (w.heap.size + 1) gn U2 vs2 ∧ addUses U2 k (g.args.drop q) = addUses U k g.args ∧ totalU U2 ≤ 16 * k + q) (fun j _ => m - (intOf j).toNat)
      case atStart => exact ⟨0, U, vs, Nat.zero_le _, rfl, HXG.out, HRG.out, rfl, HT.out⟩
      case round =>
        obtain ⟨q, U2, vs2, hq, rfl, hext2, hrows2, hM2, htot2⟩ := hrel
        by_cases hltq : q < m
        · obtain ⟨b2, off2, x, rfl, hc0, hdq⟩ := HS.out.next hltq
          have hxm : x ∈ g.args := by
            have : x ∈ g.args.drop q := by rw [hdq]; simp
            exact List.mem_of_mem_drop this
          obtain ⟨hx0, hx1⟩ := HGR.out.args x hxm
          obtain ⟨a, rfl⟩ : ∃ a : Nat, x = a := ⟨x.toNat, by omega⟩
          have ha : a < gn := by omega
          obtain ⟨v, u, hv, hu, hcell, hfree, hown, hbase⟩ := hrows2.get ha
          obtain ⟨A3, c3, rfl, -, -, -⟩ := own_slice hown
          have hc := hext2.keeps _ _ hc0
          have hlen := len_le_total hu
          rw [hdq] at hM2
          have hul : u.length ≤ 3200 := by omega
          have HM2 := Lib.hid hM2; have HR2 := Lib.hid hrows2; have HT2 := Lib.hid htot2; have HE2 := Lib.hid hext2; have HO := Lib.hid hown; have HV := Lib.hid hv; have HU := Lib.hid hu; have HC := Lib.hid hcell; have HF := Lib.hid hfree
          clear hM2 hrows2 htot2 hext2 hown hc0 hdq hxm hx0 hx1 hlen hv hu hbase hfree
          go_wp2_with (at_builtin; refine wpList_appendBig rfl (.tmp 32) (.tmp 34) 24 3 rfl tab_int' Try.underlying24 rfl (by omega) W (HE2.out.alloc _) _ u.length _ rfl (own_ext HO.out ((Ext.refl _).alloc _)) (some ⟨wr.heap.size, 0, none⟩) 1 1 [I k] rfl (Sl.newAt _ _ [I k] _ rfl) (by simp [Value.oneCell']) (by omega) (by omega) ?_; intro v' w2 hown2 hx3 hg3 hf3; obtain ⟨A4, c4, rfl, -, -, -⟩ := own_slice hown2; have e1 := hg3.cell (a := ⟨w.heap.size + 1, a, none⟩) (Keeps.alloc _ _ _ _ HC.out) (fun e => HR2.out.off a _ HV.out e.symm); have e2 := (frozen_keep hg3 ((Ext.refl wr).alloc _) HC.out (fun e => HR2.out.off a _ HV.out e.symm)).trans HF.out; clear hcell)
          go_roundw
          case rel =>
            have hst := (HR2.out.ext ((Ext.refl wr).alloc (.cells #[I k] 3))).step HV.out HU.out hown2 hg3 hf3
            refine ⟨q + 1, _, _, by omega, by go_num, hx3.setCell (by show W.heap.size ≤ w.heap.size + 1; exact Nat.le_of_eq HSZ.out) _, hst, HM2.out, ?_⟩
            · have h1 := total_modify (k : Int) U2 a; have h2 := HT2.out; omega
          case measure => simp [intOf]; omega
        · have hqm : q = m := by omega
          subst hqm
          rw [HS.out.drop_end hltq] at hM2
          have HM2 := Lib.hid hM2; have HR2 := Lib.hid hrows2; have HT2 := Lib.hid htot2; have HE2 := Lib.hid hext2
          clear hM2 hrows2 htot2 hext2 hltq hq
          go_wp2
          go_roundw
          case rel => exact ⟨k + 1, U2, vs2, by omega, by go_num, HE2.out, HR2.out, by rw [← HM.out, show U2 = addUses U k g.args from HM2.out]; rfl, by have := HT2.out; omega⟩
          case measure => simp [intOf]; omega
    · have hkn : k = gn := by omega
      subst hkn
      rw [HN.out.gates.drop_end hlt] at hM
      have hU : U = usersM N.gates := hM
      subst hU
      have HRows := Lib.hid hrows; have HE := Lib.hid hext
      clear hM hrows hext htot hlt hk
      go_wp2
      go_ret
      exact ⟨_, _, rfl, HRows.out.base_le HX.out.size, HX.out.trans HE.out⟩
end Go.Proofs.Ytjagbnaacfhokaa
/- A region that draws its order, by one fact for each operation: whatever order is drawn, each operation's slot holds what its fact says. -/
namespace Go.Proofs.Ytjagbnaacfhokaa
set_option linter.unusedVariables false
set_option linter.unusedSimpArgs false
open Go.RowKit

theorem wpOp_step' {P : Program} {ops : Array Oper} {Q : Exit → Act → World → Prop} {i : Nat} {o : Oper} {K : Act → World → Prop} {a : Act} {w : World} (ho : ops[i]? = some o) (h1 : Region.wanted o (yielded ops a.tmps) = true) (h2 : Oper.wp P o a w K Q) : wpOp P ops Q i K a w := by
  unfold wpOp
  rw [ho]
  show if Region.wanted o (yielded ops a.tmps) = true then _ else _
  rw [if_pos h1]; exact .inl h2
theorem wpAny_inv {P : Program} {md : Region.Mode} {ops : Array Oper} {Q : Exit → Act → World → Prop} (I : Array Bool → Act → World → Prop)
    (step : ∀ listed a w i, listed.size = ops.size → I listed a w → i ∈ Region.ready md ops listed → wpOp P ops Q i (I (listed.setIfInBounds i true)) a w)
    (last : ∀ listed a w, I listed a w → Region.ready md ops listed = [] → Q .normal a w) :
    ∀ (fuel : Nat) (listed : Array Bool) (a : Act) (w : World), listed.size = ops.size → listed.toList.count false ≤ fuel → I listed a w → wpAny P md ops Q fuel listed a w
  | 0, listed, a, w, hs, hc, hI => by
    have hr : Region.ready md ops listed = [] := by
      unfold Region.ready
      refine List.filter_eq_nil_iff.2 fun i hi => ?_
      have hlt : i < listed.size := by rw [hs]; exact List.mem_range.1 hi
      have h0 : listed.toList.count false = 0 := by omega
      have hm := List.count_eq_zero.1 h0
      have hx : listed[i] = true := by
        cases h : listed[i] with
        | true => rfl
        | false => exact absurd (by rw [← h]; exact Array.getElem_mem_toList hlt) hm
      simp [Array.getD, hlt, hx]
    exact ⟨hr, last _ _ _ hI hr⟩
  | fuel + 1, listed, a, w, hs, hc, hI => by
    refine ⟨fun hr => last _ _ _ hI hr, fun i hi => ?_⟩
    refine wpOp_mono (fun a' w' h => wpAny_inv I step last fuel _ a' w' (by simpa using hs) ?_ h) (step listed a w i hs hI hi)
    have hm : i < ops.size ∧ listed.getD i true = false := by
      unfold Region.ready at hi
      obtain ⟨h1, h2⟩ := List.mem_filter.1 hi
      refine ⟨List.mem_range.1 h1, ?_⟩
      simp only [Bool.and_eq_true, Bool.not_eq_true'] at h2
      exact h2.1
    obtain ⟨h1, h2⟩ := hm
    have hlt : i < listed.size := by omega
    have hx : listed.toList[i]'(by simpa using hlt) = false := by simpa [Array.getD, hlt] using h2
    have := List.count_set (a := true) (b := false) (l := listed.toList) (i := i) (by simpa using hlt)
    simp only [Array.toList_setIfInBounds]
    have hpos : 0 < listed.toList.count false := List.count_pos_iff.2 (by rw [← hx]; exact List.getElem_mem _)
    rw [this, hx]
    have e1 : (if (false == false) = true then 1 else 0) = 1 := rfl
    have e2 : (if (true == false) = true then 1 else 0) = 0 := rfl
    rw [e1, e2]; omega

/-- What is known in the midst of such a region: nothing old has changed, and each operation that has come up has left what its fact says. -/
structure Flow (W0 : World) (a0 : Act) (ops : Array Oper) (F : Nat → Value → World → Prop) (listed : Array Bool) (a : Act) (w : World) : Prop where
  ext : Ext W0 w
  size : a.tmps.size = a0.tmps.size
  defers : a.defers = a0.defers
  base : ∀ s : Nat, (∀ (j : Nat) (o : Oper), ops[j]? = some o → o.dst ≠ some s) → a.tmps[s]? = a0.tmps[s]?
  slot : ∀ (j : Nat) (o : Oper) (d : Nat), listed.getD j false = true → ops[j]? = some o → o.dst = some d → ∃ v, a.tmps[d]? = some v ∧ F j v w

def flowOK (ops : Array Oper) (n : Nat) : Bool :=
  (List.range ops.size).all fun j => match ops[j]? with
    | none => true
    | some o => (match o.dst with
      | some d => decide (d < n) && (List.range j).all (fun i => match ops[i]? with | some o' => !(o'.dst == some d) | none => true)
      | none => false) && o.after.toList.all (fun e => !(Region.binds .any e) || decide (e.on < j))
theorem flow_dst {ops : Array Oper} {n : Nat} (h : flowOK ops n = true) {j : Nat} {o : Oper} (hj : ops[j]? = some o) : ∃ d, o.dst = some d ∧ d < n ∧ (∀ i o', i < j → ops[i]? = some o' → o'.dst ≠ some d) ∧ ∀ e ∈ o.after.toList, Region.binds .any e = true → e.on < j := by
  unfold flowOK at h
  have hlt : j < ops.size := (Array.getElem?_eq_some_iff.1 hj).1
  have h1 := List.all_eq_true.1 h j (List.mem_range.2 hlt)
  rw [hj] at h1
  simp only [Bool.and_eq_true] at h1
  obtain ⟨h1, h2⟩ := h1
  cases hd : o.dst with
  | none => rw [hd] at h1; cases h1
  | some d =>
    rw [hd] at h1
    simp only [Bool.and_eq_true, decide_eq_true_eq] at h1
    refine ⟨d, rfl, h1.1, fun i o' hi ho' => ?_, fun e he hb => by have := List.all_eq_true.1 h2 e he; rw [hb] at this; simpa using this⟩
    have h3 := List.all_eq_true.1 h1.2 i (List.mem_range.2 hi)
    rw [ho'] at h3
    simpa using h3
theorem flow_apart {ops : Array Oper} {n : Nat} (h : flowOK ops n = true) {j i : Nat} {o o' : Oper} {d : Nat} (hj : ops[j]? = some o) (hi : ops[i]? = some o') (hd : o.dst = some d) (hd' : o'.dst = some d) : j = i := by
  rcases Nat.lt_trichotomy j i with q | q | q
  · obtain ⟨d2, e, _, h3, _⟩ := flow_dst h hi
    rw [hd'] at e; injection e with e; subst e
    exact absurd hd (h3 j o q hj)
  · exact q
  · obtain ⟨d2, e, _, h3, _⟩ := flow_dst h hj
    rw [hd] at e; injection e with e; subst e
    exact absurd hd' (h3 i o' q hi)
theorem Flow.put {W0 : World} {a0 : Act} {ops : Array Oper} {F : Nat → Value → World → Prop} {listed : Array Bool} {a : Act} {w w' : World} (hok : flowOK ops a0.tmps.size = true) (mono : ∀ j v w w', F j v w → Ext w w' → F j v w')
    (h : Flow W0 a0 ops F listed a w) (hs : listed.size = ops.size) {j : Nat} {o : Oper} (hj : ops[j]? = some o) {v : Value} (hv : F j v w') (hx : Ext w w') : Flow W0 a0 ops F (listed.setIfInBounds j true) (a.put o.dst v) w' := by
  obtain ⟨d, hd, hdn, -, -⟩ := flow_dst hok hj
  rw [hd]
  refine ⟨h.ext.trans hx, by simpa [Act.put] using h.size, h.defers, fun s hsn => ?_, fun i o' d' hl hi hd' => ?_⟩
  · show (a.tmps.setIfInBounds d v)[s]? = _
    rw [Array.getElem?_setIfInBounds_ne (fun e => hsn j o hj (by rw [hd, e]))]
    exact h.base s hsn
  · show ∃ v', (a.tmps.setIfInBounds d v)[d']? = some v' ∧ _
    by_cases e : j = i
    · subst e
      rw [hj] at hi; injection hi with hi; subst hi
      rw [hd] at hd'; injection hd' with hd'; subst hd'
      refine ⟨v, ?_, hv⟩
      rw [Array.getElem?_setIfInBounds_self_of_lt (by rw [h.size]; exact hdn)]
    · have hne : d ≠ d' := fun q => e (flow_apart hok hj hi hd (by rw [hd', q]))
      have hl' : listed.getD i false = true := by
        rw [Array.getD_eq_getD_getElem?, Array.getElem?_setIfInBounds_ne e] at hl
        rw [Array.getD_eq_getD_getElem?]; exact hl
      obtain ⟨v', h1, h2⟩ := h.slot i o' d' hl' hi hd'
      exact ⟨v', by rw [Array.getElem?_setIfInBounds_ne hne]; exact h1, mono _ _ _ _ h2 hx⟩

theorem ready_of {md : Region.Mode} {ops : Array Oper} {listed : Array Bool} {i : Nat} (h : i ∈ Region.ready md ops listed) : ∃ o, ops[i]? = some o ∧ ∀ e ∈ o.after.toList, Region.binds md e = true → listed.getD e.on false = true := by
  unfold Region.ready at h
  obtain ⟨h1, h2⟩ := List.mem_filter.1 h
  simp only [Bool.and_eq_true] at h2
  obtain ⟨-, h3⟩ := h2
  cases ho : ops[i]? with
  | none => rw [ho] at h3; cases h3
  | some o =>
    rw [ho] at h3
    simp only [Option.map_some, Option.getD_some] at h3
    refine ⟨o, rfl, fun e he hb => ?_⟩
    have := Array.all_eq_true'.1 h3 e (by simpa using he)
    simpa [hb] using this
theorem all_listed {ops : Array Oper} {n : Nat} (hok : flowOK ops n = true) {listed : Array Bool} (hs : listed.size = ops.size) (h : Region.ready .any ops listed = []) : ∀ (m j : Nat), j < m → j < ops.size → listed.getD j false = true
  | 0, j, h1, _ => by omega
  | m + 1, j, h1, h2 => by
    have ih := all_listed hok hs h m
    by_cases hl : listed.getD j false = true
    · exact hl
    · exfalso
      have hmem : j ∈ Region.ready .any ops listed := by
        unfold Region.ready
        refine List.mem_filter.2 ⟨List.mem_range.2 h2, ?_⟩
        have hj : ops[j]? = some ops[j] := Array.getElem?_eq_getElem h2
        obtain ⟨d, -, -, -, hb⟩ := flow_dst hok hj
        rw [hj]
        simp only [Bool.and_eq_true, Option.map_some, Option.getD_some]
        refine ⟨?_, Array.all_eq_true'.2 fun e he => ?_⟩
        · have h2' : j < listed.size := by omega
          simp only [Array.getD, h2', dif_pos] at hl ⊢
          simpa using hl
        · cases hbd : Region.binds .any e with
          | false => rfl
          | true =>
            have he' := hb e (by simpa using he) hbd
            rw [ih e.on (by omega) (by omega)]; rfl
      rw [h] at hmem; cases hmem

/-- The rule: each operation once. -/
theorem wp_flow {P : Program} {ops : Array Oper} {Q : Exit → Act → World → Prop} {id : Nat} {a0 : Act} {W0 : World} (F : Nat → Value → World → Prop) (hm : P.follows .mixedOrders = true) (hok : flowOK ops a0.tmps.size = true)
    (mono : ∀ j v w w', F j v w → Ext w w' → F j v w')
    (each : ∀ j o, ops[j]? = some o → ∀ listed a w, Flow W0 a0 ops F listed a w → (∀ e ∈ o.after.toList, Region.binds .any e = true → listed.getD e.on false = true) →
      Region.wanted o (yielded ops a.tmps) = true ∧ ∀ K : Act → World → Prop, (∀ v w', F j v w' → Ext w w' → K (a.put o.dst v) w') → Oper.wp P o a w K Q)
    (last : ∀ listed a w, Flow W0 a0 ops F listed a w → (∀ j, j < ops.size → listed.getD j false = true) → Q .normal a w) : (Code.region id ops true).wp P Q a0 W0 := by
  refine wp_region_any hm (wpAny_inv (fun listed a w => listed.size = ops.size ∧ Flow W0 a0 ops F listed a w) ?_ ?_ ops.size _ _ _ (by simp) ?_ ?_)
  · intro listed a w i hs hI hi
    obtain ⟨o, ho, hdep⟩ := ready_of hi
    obtain ⟨h1, h2⟩ := each i o ho listed a w hI.2 hdep
    refine wpOp_step' ho h1 (h2 _ fun v w' hv hx => ⟨by simpa using hs, hI.2.put hok mono hs ho hv hx⟩)
  · intro listed a w hI hr
    exact last _ _ _ hI.2 fun j hj => all_listed hok hI.1 hr (j + 1) j (Nat.lt_succ_self j) hj
  · rw [Array.toList_replicate]; simp
  · exact ⟨by simp, ⟨(Ext.refl W0).drew, rfl, rfl, fun s _ => rfl, fun j o d h _ _ => by
      rw [Array.getD_eq_getD_getElem?, Array.getElem?_replicate] at h
      split at h <;> cases h⟩⟩

/-! ## The rule with the operations in a list, each with its own fact -/
inductive AllFrom (E : Nat → Oper → Prop) : Nat → List Oper → Prop
  | nil {k : Nat} : AllFrom E k []
  | cons {k : Nat} {o : Oper} {l : List Oper} : E k o → AllFrom E (k + 1) l → AllFrom E k (o :: l)
theorem AllFrom.at_ {E : Nat → Oper → Prop} {k : Nat} {l : List Oper} (h : AllFrom E k l) : ∀ (j : Nat) (o : Oper), l[j]? = some o → E (k + j) o := by
  induction h with
  | nil => intro j o h; simp at h
  | cons h0 _ ih =>
    intro j o h
    cases j with
    | zero => simp at h; subst h; exact h0
    | succ j => have := ih j o (by simpa using h); rwa [show ∀ k : Nat, k + 1 + j = k + (j + 1) from fun k => by omega] at this
def nth {α : Type} : List α → Nat → α → α
  | [], _, d => d
  | x :: _, 0, _ => x
  | _ :: l, n + 1, d => nth l n d
abbrev Fact := Value → World → Prop
/-- The facts of the operations, in their order. -/
def facts (Fs : List Fact) (j : Nat) (v : Value) (w : World) : Prop := nth Fs j (fun _ _ => True) v w
def factsMono : List Fact → Prop
  | [] => True
  | f :: l => (∀ v w w', f v w → Ext w w' → f v w') ∧ factsMono l
theorem facts_mono : ∀ {Fs : List Fact}, factsMono Fs → ∀ j v w w', facts Fs j v w → Ext w w' → facts Fs j v w'
  | [], _, j, v, w, w', _, _ => by unfold facts nth; trivial
  | f :: l, h, 0, v, w, w', hv, hx => h.1 v w w' hv hx
  | f :: l, h, j + 1, v, w, w', hv, hx => facts_mono (Fs := l) h.2 j v w w' hv hx
abbrev isV (V : Value) : Fact := fun v _ => v = V
theorem isV_mono {V : Value} : ∀ (v : Value) (w w' : World), isV V v w → Ext w w' → isV V v w' := fun _ _ _ h _ => h
def dstIs (ops : Array Oper) (i d : Nat) : Bool := match ops[i]? with | some o => o.dst == some d | none => false
theorem dstIs_spec {ops : Array Oper} {i d : Nat} (h : dstIs ops i d = true) : ∃ o, ops[i]? = some o ∧ o.dst = some d := by
  unfold dstIs at h
  cases ho : ops[i]? with
  | none => rw [ho] at h; cases h
  | some o => rw [ho] at h; exact ⟨o, rfl, by simpa using h⟩
def freeSlot (ops : Array Oper) (s : Nat) : Bool := ops.all fun o => !(o.dst == some s)
theorem freeSlot_spec {ops : Array Oper} {s : Nat} (h : freeSlot ops s = true) : ∀ (j : Nat) (o : Oper), ops[j]? = some o → o.dst ≠ some s := fun j o ho => by
  have := (Array.all_eq_true_iff_forall_mem.1 h) o (Array.mem_of_getElem? ho)
  simpa using this
def waitsFor (o : Oper) (i : Nat) : Bool := o.after.any fun e => e.on == i && Region.binds .any e
theorem waitsFor_spec {o : Oper} {i : Nat} {listed : Array Bool} (h : waitsFor o i = true) (hd : ∀ e ∈ o.after.toList, Region.binds .any e = true → listed.getD e.on false = true) : listed.getD i false = true := by
  obtain ⟨e, he, h2⟩ := Array.any_eq_true'.1 h
  simp only [Bool.and_eq_true, beq_iff_eq] at h2
  rw [← h2.1]; exact hd e (by simpa using he) h2.2
theorem wanted_yes {ops : Array Oper} {o : Oper} {tmps : Array Value} (g : Nat) (b : Bool) (d : Nat) (hg : o.guard = some (g, b)) (hd : dstIs ops g d = true) (hs : tmps[d]? = some (.bool b)) : Region.wanted o (yielded ops tmps) = true := by
  obtain ⟨og, h1, h2⟩ := dstIs_spec hd
  unfold Region.wanted yielded
  rw [hg]; simp [h1, h2, hs]
theorem wanted_no {ops : Array Oper} {o : Oper} {tmps : Array Value} (g : Nat) (b : Bool) (d : Nat) (hg : o.guard = some (g, b)) (hd : dstIs ops g d = true) (hs : tmps[d]? = some (.bool (!b))) : Region.wanted o (yielded ops tmps) = false := by
  obtain ⟨og, h1, h2⟩ := dstIs_spec hd
  unfold Region.wanted yielded
  rw [hg]; cases b <;> simp [h1, h2, hs]
theorem wanted_free {ops : Array Oper} {o : Oper} {tmps : Array Value} (hg : o.guard = none) : Region.wanted o (yielded ops tmps) = true := by
  unfold Region.wanted; rw [hg]
/-- One operation of the region. -/
def StepOK (P : Program) (ops : Array Oper) (Q : Exit → Act → World → Prop) (W0 : World) (a0 : Act) (F : Nat → Value → World → Prop) (j : Nat) (o : Oper) : Prop :=
  ∀ (a : Act) (w : World), Ext W0 w →
    (∀ i d, waitsFor o i = true → dstIs ops i d = true → ∃ v, a.tmps[d]? = some v ∧ F i v w) →
    (∀ s, freeSlot ops s = true → a.tmps[s]? = a0.tmps[s]?) →
    (Region.wanted o (yielded ops a.tmps) = true ∧ ∀ K : Act → World → Prop, (∀ v w', F j v w' → Ext w w' → K (a.put o.dst v) w') → Oper.wp P o a w K Q) ∨ (Region.wanted o (yielded ops a.tmps) = false ∧ F j undef w)
theorem wpOp_skip' {P : Program} {ops : Array Oper} {Q : Exit → Act → World → Prop} {i : Nat} {o : Oper} {K : Act → World → Prop} {a : Act} {w : World} (ho : ops[i]? = some o) (h1 : Region.wanted o (yielded ops a.tmps) = false) (h2 : K (a.put o.dst undef) w) : wpOp P ops Q i K a w := by
  unfold wpOp
  rw [ho]
  show if Region.wanted o (yielded ops a.tmps) = true then _ else _
  rw [if_neg (by rw [h1]; decide)]; exact h2
theorem wp_flow2 {P : Program} {ops : Array Oper} {Q : Exit → Act → World → Prop} {id : Nat} {a0 : Act} {W0 : World} (Fs : List Fact) (hm : P.follows .mixedOrders = true) (hok : flowOK ops a0.tmps.size = true)
    (mono : factsMono Fs) (each : AllFrom (StepOK P ops Q W0 a0 (facts Fs)) 0 ops.toList)
    (last : ∀ a w, Ext W0 w → a.tmps.size = a0.tmps.size → a.defers = a0.defers → (∀ i d, dstIs ops i d = true → ∃ v, a.tmps[d]? = some v ∧ facts Fs i v w) → (∀ s, freeSlot ops s = true → a.tmps[s]? = a0.tmps[s]?) → Q .normal a w) : (Code.region id ops true).wp P Q a0 W0 := by
  refine wp_region_any hm (wpAny_inv (fun listed a w => listed.size = ops.size ∧ Flow W0 a0 ops (facts Fs) listed a w) ?_ ?_ ops.size _ _ _ (by simp) ?_ ?_)
  · intro listed a w i hs hI hi
    obtain ⟨o, ho, hdep⟩ := ready_of hi
    have hl : ops.toList[i]? = some o := by simpa using ho
    have hst := each.at_ i o hl
    rw [Nat.zero_add] at hst
    rcases hst a w hI.2.ext (fun i' d hw hd => by
        obtain ⟨o', h1, h2⟩ := dstIs_spec hd
        exact hI.2.slot i' o' d (waitsFor_spec hw hdep) h1 h2) (fun s h => hI.2.base s (freeSlot_spec h)) with ⟨h1, h2⟩ | ⟨h1, h2⟩
    · refine wpOp_step' ho h1 (h2 _ fun v w' hv hx => ⟨by simpa using hs, hI.2.put hok (facts_mono mono) hs ho hv hx⟩)
    · exact wpOp_skip' ho h1 ⟨by simpa using hs, hI.2.put hok (facts_mono mono) hs ho h2 (Ext.refl _)⟩
  · intro listed a w hI hr
    have hall := all_listed hok hI.1 hr
    refine last _ _ hI.2.ext hI.2.size hI.2.defers (fun i d hd => ?_) (fun s h => hI.2.base s (freeSlot_spec h))
    obtain ⟨o', h1, h2⟩ := dstIs_spec hd
    exact hI.2.slot i o' d (hall (i + 1) i (Nat.lt_succ_self i) (Array.getElem?_eq_some_iff.1 h1).1) h1 h2
  · rw [Array.toList_replicate]; simp
  · exact ⟨by simp, ⟨(Ext.refl W0).drew, rfl, rfl, fun s _ => rfl, fun j o d h _ _ => by
      rw [Array.getD_eq_getD_getElem?, Array.getElem?_replicate] at h
      split at h <;> cases h⟩⟩

/-! ## The same for the first m operations of a region; the state behind them is written out -/
def putAll : Act → List Oper → List Value → Act
  | a, o :: os, v :: vs => putAll (a.put o.dst v) os vs
  | a, _, _ => a
theorem Act.put_size (a : Act) (d : Option Tmp) (v : Value) : (a.put d v).tmps.size = a.tmps.size := by cases d <;> simp [Act.put]
theorem Act.put_defers' (a : Act) (d : Option Tmp) (v : Value) : (a.put d v).defers = a.defers := by cases d <;> rfl
theorem eq_putAll {a : Act} : ∀ {os : List Oper} {vs : List Value} {a0 : Act}, vs.length = os.length → a.tmps.size = a0.tmps.size → a.defers = a0.defers →
    (∀ s : Nat, (∀ o ∈ os, o.dst ≠ some s) → a.tmps[s]? = a0.tmps[s]?) → (∀ (j : Nat) (o : Oper) (d : Nat), os[j]? = some o → o.dst = some d → d < a0.tmps.size ∧ ∃ v, vs[j]? = some v ∧ a.tmps[d]? = some v) → a = putAll a0 os vs
  | [], [], a0, _, _, hd, hb, _ => by
    obtain ⟨t, d⟩ := a
    obtain ⟨t0, d0⟩ := a0
    simp only [putAll]
    have h1 : t = t0 := Array.ext_getElem? fun s => hb s (fun o h => by cases h)
    have h2 : d = d0 := hd
    rw [h1, h2]
  | o :: os, v :: vs, a0, hl, hsz, hd, hb, hs => by
    simp only [putAll]
    refine eq_putAll (by simpa using hl) (by rw [Act.put_size]; exact hsz) (by rw [Act.put_defers']; exact hd) (fun s h => ?_) (fun j o' d' hj hd' => ?_)
    · cases ho : o.dst with
      | none => exact hb s (fun o' h' => by
          rcases List.mem_cons.1 h' with rfl | h'
          · rw [ho]; simp
          · exact h o' h')
      | some d =>
        obtain ⟨h1, v', h2, h3⟩ := hs 0 o d (by simp) ho
        simp only [List.getElem?_cons_zero, Option.some.injEq] at h2
        subst h2
        by_cases e : d = s
        · subst e
          rw [h3]; simp [Act.put, Array.getElem?_setIfInBounds_self_of_lt h1]
        · rw [hb s (fun o' h' => by
            rcases List.mem_cons.1 h' with rfl | h'
            · rw [ho]; simpa using e
            · exact h o' h')]
          simp [Act.put, Array.getElem?_setIfInBounds_ne e]
    · obtain ⟨h1, v', h2, h3⟩ := hs (j + 1) o' d' (by simpa using hj) hd'
      exact ⟨by rw [Act.put_size]; exact h1, v', by simpa using h2, h3⟩
def ForFacts : List Fact → World → (List Value → Prop) → Prop
  | [], _, K => K []
  | f :: l, w, K => ∀ v, f v w → ForFacts l w (fun vs => K (v :: vs))
theorem forFacts_get {a : Act} {w : World} : ∀ {os : List Oper} {Fs : List Fact} {K : List Value → Prop}, Fs.length = os.length → ForFacts Fs w K →
    (∀ (j : Nat) (o : Oper), os[j]? = some o → ∃ d v, o.dst = some d ∧ a.tmps[d]? = some v ∧ facts Fs j v w) →
    ∃ vs : List Value, vs.length = os.length ∧ K vs ∧ ∀ (j : Nat) (o : Oper) (d : Nat), os[j]? = some o → o.dst = some d → ∃ v, vs[j]? = some v ∧ a.tmps[d]? = some v
  | [], [], K, _, hK, _ => ⟨[], rfl, hK, fun j o d h => by simp at h⟩
  | o :: os, f :: Fs, K, hl, hK, h => by
    obtain ⟨d, v, h1, h2, h3⟩ := h 0 o (by simp)
    obtain ⟨vs, g1, g2, g3⟩ := forFacts_get (by simpa using hl) (hK v h3) (fun j o' hj => h (j + 1) o' (by simpa using hj))
    refine ⟨v :: vs, by simpa using g1, g2, fun j o' d' hj hd => ?_⟩
    cases j with
    | zero =>
      simp only [List.getElem?_cons_zero, Option.some.injEq] at hj; subst hj
      rw [h1] at hd; injection hd with hd; subst hd
      exact ⟨v, by simp, h2⟩
    | succ j => simpa using g3 j o' d' (by simpa using hj) hd
/-- One operation of the front. -/
def StepOK3 (P : Program) (ops : Array Oper) (m : Nat) (Q : Exit → Act → World → Prop) (W0 : World) (a0 : Act) (F : Nat → Value → World → Prop) (j : Nat) (o : Oper) : Prop :=
  ∀ (a : Act) (w : World), Ext W0 w →
    (∀ i d, waitsFor o i = true → dstIs ops i d = true → ∃ v, a.tmps[d]? = some v ∧ F i v w) →
    (∀ s, freeSlot (ops.toList.take m).toArray s = true → a.tmps[s]? = a0.tmps[s]?) →
    (Region.wanted o (yielded ops a.tmps) = true ∧ ∀ K : Act → World → Prop, (∀ v w', F j v w' → Ext w w' → K (a.put o.dst v) w') → Oper.wp P o a w K Q) ∨ (Region.wanted o (yielded ops a.tmps) = false ∧ F j undef w)
/-- Each operation behind the first m waits for all of them. -/
def sufOK (ops : Array Oper) (m : Nat) : Bool := (List.range ops.size).all fun i => decide (i < m) || match ops[i]? with | some o => (List.range m).all (waitsFor o) | none => true
def preL (m n : Nat) : Array Bool := (List.replicate m true ++ List.replicate n false).toArray
theorem listed_pre {listed : Array Bool} {m n : Nat} (hs : listed.size = m + n) (h1 : ∀ j : Nat, j < m → listed.getD j false = true) (h2 : ∀ j : Nat, m ≤ j → listed.getD j false = false) : listed = preL m n := by
  refine Array.ext_getElem? fun j => ?_
  have e0 : (preL m n)[j]? = (List.replicate m true ++ List.replicate n false)[j]? := List.getElem?_toArray
  rw [e0, List.getElem?_append, List.length_replicate, List.getElem?_replicate, List.getElem?_replicate]
  by_cases hj : j < m
  · have := h1 j hj
    rw [if_pos hj, if_pos hj]
    have hlt : j < listed.size := by omega
    simp only [Array.getD, hlt, dif_pos] at this
    rw [Array.getElem?_eq_getElem hlt]; exact congrArg some this
  · rw [if_neg hj]
    by_cases hlt : j < listed.size
    · have := h2 j (by omega)
      simp only [Array.getD, hlt, dif_pos] at this
      rw [Array.getElem?_eq_getElem hlt, if_pos (by omega)]; exact congrArg some this
    · rw [Array.getElem?_eq_none (by omega), if_neg (by omega)]
theorem count_true_pre {listed : Array Bool} {m n : Nat} (hs : listed.size = m + n) (hc : listed.toList.count false ≤ n) (h2 : ∀ j : Nat, m ≤ j → listed.getD j false = false) : ∀ j : Nat, j < m → listed.getD j false = true := by
  intro j hj
  have hlt : j < listed.size := by omega
  have hl : listed.toList.length = m + n := by simpa using hs
  have e : listed.toList = listed.toList.take m ++ listed.toList.drop m := (List.take_append_drop m _).symm
  have hd : (listed.toList.drop m).count false = n := by
    have : ∀ x ∈ listed.toList.drop m, x = false := by
      intro x hx
      obtain ⟨k, hk, rfl⟩ := List.mem_iff_getElem.1 hx
      rw [List.getElem_drop]
      have hk' : m + k < listed.size := by simp only [List.length_drop, Array.length_toList] at hk; omega
      have := h2 (m + k) (by omega)
      simpa [Array.getD, hk'] using this
    rw [List.count_eq_length.2 (fun x hx => (this x hx).symm)]; simp; omega
  rw [e, List.count_append, hd] at hc
  have h0 : (listed.toList.take m).count false = 0 := by omega
  have hn := List.count_eq_zero.1 h0
  have hx : listed[j] = true := by
    cases hh : listed[j] with
    | true => rfl
    | false => exact absurd (List.mem_iff_getElem.2 ⟨j, by simp; omega, by rw [List.getElem_take]; simpa using hh⟩) hn
  simp [Array.getD, hlt, hx]
theorem wpAny_inv_pre {P : Program} {ops : Array Oper} {Q : Exit → Act → World → Prop} {m n : Nat} (hsz : ops.size = m + n) (hsuf : sufOK ops m = true) (I : Array Bool → Act → World → Prop)
    (step : ∀ listed a w i, listed.size = ops.size → I listed a w → i < m → i ∈ Region.ready .any ops listed → wpOp P ops Q i (I (listed.setIfInBounds i true)) a w)
    (ready : ∀ listed a w, listed.size = ops.size → I listed a w → Region.ready .any ops listed = [] → ∀ j : Nat, j < m → listed.getD j false = true)
    (rest : ∀ a w, I (preL m n) a w → wpAny P .any ops Q n (preL m n) a w) :
    ∀ (k : Nat) (listed : Array Bool) (a : Act) (w : World), listed.size = ops.size → listed.toList.count false = n + k → (∀ j : Nat, m ≤ j → listed.getD j false = false) → I listed a w → wpAny P .any ops Q (n + k) listed a w
  | 0, listed, a, w, hs, hc, h2, hI => by
    have := listed_pre (m := m) (n := n) (by omega) (count_true_pre (m := m) (n := n) (by omega) (by omega) h2) h2
    subst this
    exact rest a w hI
  | k + 1, listed, a, w, hs, hc, h2, hI => by
    have hnot : ¬ ∀ j : Nat, j < m → listed.getD j false = true := by
      intro h
      have e := listed_pre (m := m) (n := n) (by omega) h h2
      rw [e] at hc
      simp [preL, List.count_append, List.count_replicate] at hc
    show wpAny P .any ops Q ((n + k) + 1) listed a w
    refine ⟨fun hr => absurd (ready listed a w hs hI hr) hnot, fun i hi => ?_⟩
    have hi2 := hi
    have him : i < m := by
      rcases Nat.lt_or_ge i m with q | q
      · exact q
      · exfalso; apply hnot
        obtain ⟨o, ho, hdep⟩ := ready_of hi
        have h3 := List.all_eq_true.1 hsuf i (List.mem_range.2 (Array.getElem?_eq_some_iff.1 ho).1)
        rw [ho] at h3
        simp only [Bool.or_eq_true, decide_eq_true_eq] at h3
        rcases h3 with h3 | h3
        · omega
        · intro j hj
          exact waitsFor_spec (List.all_eq_true.1 h3 j (List.mem_range.2 hj)) hdep
    refine wpOp_mono (fun a' w' h => wpAny_inv_pre hsz hsuf I step ready rest k _ a' w' (by simpa using hs) ?_ ?_ h) (step listed a w i hs hI him hi)
    · have hm : i < ops.size ∧ listed.getD i true = false := by
        unfold Region.ready at hi2
        obtain ⟨g1, g2⟩ := List.mem_filter.1 hi2
        refine ⟨List.mem_range.1 g1, ?_⟩
        simp only [Bool.and_eq_true, Bool.not_eq_true'] at g2
        exact g2.1
      obtain ⟨g1, g2⟩ := hm
      have hlt : i < listed.size := by omega
      have hx : listed.toList[i]'(by simpa using hlt) = false := by simpa [Array.getD, hlt] using g2
      have := List.count_set (a := true) (b := false) (l := listed.toList) (i := i) (by simpa using hlt)
      simp only [Array.toList_setIfInBounds]
      have hpos : 0 < listed.toList.count false := List.count_pos_iff.2 (by rw [← hx]; exact List.getElem_mem _)
      rw [this, hx]
      have e1 : (if (false == false) = true then 1 else 0) = 1 := rfl
      have e2 : (if (true == false) = true then 1 else 0) = 0 := rfl
      rw [e1, e2]; omega
    · intro j hj
      rw [getD_set_ne false (by omega)]; exact h2 j hj
theorem dstIs_take {l : List Oper} {m i d : Nat} (h : i < m) : dstIs (l.take m).toArray i d = dstIs l.toArray i d := by
  unfold dstIs
  rw [List.getElem?_toArray, List.getElem?_toArray, List.getElem?_take_of_lt h]
/-- THE RULE. The first m operations in whatever order, each by its own fact; then the rest, from a state that is written out. -/
theorem wp_flow3 {P : Program} {l : List Oper} {Q : Exit → Act → World → Prop} {id : Nat} {a0 : Act} {W0 : World} (m n : Nat) (Fs : List Fact) (hm : P.follows .mixedOrders = true) (hln : l.length = m + n) (hfl : Fs.length = m)
    (hok : flowOK (l.take m).toArray a0.tmps.size = true) (hsuf : sufOK l.toArray m = true)
    (mono : factsMono Fs) (each : AllFrom (StepOK3 P l.toArray m Q W0 a0 (facts Fs)) 0 (l.take m))
    (rest : ∀ w, Ext W0 w → ForFacts Fs w (fun vs => wpAny P .any l.toArray Q n (preL m n) (putAll a0 (l.take m) vs) w)) : (Code.region id l.toArray true).wp P Q a0 W0 := by
  have hsz : l.toArray.size = m + n := by simpa using hln
  have hlt : (l.take m).length = m := by simp; omega
  have hpo : ∀ i o, i < m → l.toArray[i]? = some o → (l.take m).toArray[i]? = some o := fun i o hi ho => by
    rw [List.getElem?_toArray, List.getElem?_take_of_lt hi]; simpa using ho
  have hdep : ∀ i o e, i < m → l.toArray[i]? = some o → e ∈ o.after.toList → Region.binds .any e = true → e.on < i := fun i o e hi ho he hbd => by
    obtain ⟨d, -, -, -, h4⟩ := flow_dst hok (hpo i o hi ho)
    exact h4 e he hbd
  refine wp_region_any hm ?_
  have key := wpAny_inv_pre (P := P) (Q := Q) hsz hsuf (fun listed a w => listed.size = m + n ∧ Flow W0 a0 (l.take m).toArray (facts Fs) (listed.extract 0 m) a w) ?_ ?_ ?_ m (Array.replicate l.toArray.size false) a0 { W0 with drawn := W0.drawn + 1 } (by simp) ?_ ?_ ?_
  · rw [Nat.add_comm] at key; rw [← hsz] at key; exact key
  · rintro listed a w i hs ⟨hI0, hI⟩ him hi
    obtain ⟨o, ho, hd⟩ := ready_of hi
    have ho' := hpo i o him ho
    have hl : (l.take m)[i]? = some o := by simpa using ho'
    have hst := each.at_ i o hl
    rw [Nat.zero_add] at hst
    have hext : ∀ j : Nat, j < m → (listed.extract 0 m).getD j false = listed.getD j false := fun j hj => by
      rw [Array.getD_eq_getD_getElem?, Array.getD_eq_getD_getElem?, Array.getElem?_extract, if_pos (by omega), Nat.zero_add]
    have hset : (listed.setIfInBounds i true).extract 0 m = (listed.extract 0 m).setIfInBounds i true := by
      refine Array.ext_getElem? fun j => ?_
      rw [Array.getElem?_extract]
      by_cases hj : j < m
      · rw [if_pos (by simp; omega), Nat.zero_add]
        by_cases e : i = j
        · subst e
          rw [Array.getElem?_setIfInBounds_self_of_lt (by omega), Array.getElem?_setIfInBounds_self_of_lt (by simp; omega)]
        · rw [Array.getElem?_setIfInBounds_ne e, Array.getElem?_setIfInBounds_ne e, Array.getElem?_extract, if_pos (by omega), Nat.zero_add]
      · rw [if_neg (by omega), Array.getElem?_eq_none (by simp; omega)]
    rcases hst a w hI.ext (fun i' d hw hd' => by
        obtain ⟨o', h1, h2⟩ := dstIs_spec hd'
        have hi' : i' < i := by
          obtain ⟨e, he, h2⟩ := Array.any_eq_true'.1 hw
          simp only [Bool.and_eq_true, beq_iff_eq] at h2
          rw [← h2.1]; exact hdep i o e him ho (by simpa using he) h2.2
        refine hI.slot i' o' d ?_ (hpo i' o' (by omega) h1) h2
        rw [hext i' (by omega)]; exact waitsFor_spec hw hd) (fun s h => hI.base s (freeSlot_spec h)) with ⟨h1, h2⟩ | ⟨h1, h2⟩
    · refine wpOp_step' ho h1 (h2 _ fun v w' hv hx => ⟨by simpa using hI0, ?_⟩)
      rw [hset]
      exact hI.put hok (facts_mono mono) (by simp; omega) ho' hv hx
    · refine wpOp_skip' ho h1 ⟨by simpa using hI0, ?_⟩
      rw [hset]
      exact hI.put hok (facts_mono mono) (by simp; omega) ho' h2 (Ext.refl _)
  · rintro listed a w hs ⟨hI0, hI⟩ hr
    have : ∀ (k j : Nat), j < k → j < m → listed.getD j false = true := by
      intro k
      induction k with
      | zero => intro j h; omega
      | succ k ih =>
        intro j h1 h2
        by_cases hl : listed.getD j false = true
        · exact hl
        · exfalso
          have hj : l.toArray[j]? = some l.toArray[j] := Array.getElem?_eq_getElem (by omega)
          have hmem : j ∈ Region.ready .any l.toArray listed := by
            unfold Region.ready
            refine List.mem_filter.2 ⟨List.mem_range.2 (by omega), ?_⟩
            rw [hj]
            simp only [Bool.and_eq_true, Option.map_some, Option.getD_some]
            refine ⟨?_, Array.all_eq_true'.2 fun e he => ?_⟩
            · have h2' : j < listed.size := by omega
              simp only [Array.getD, h2', dif_pos] at hl ⊢
              simpa using hl
            · cases hbd : Region.binds .any e with
              | false => rfl
              | true =>
                have he' := hdep j _ e h2 hj (by simpa using he) hbd
                rw [ih e.on (by omega) (by omega)]; rfl
          rw [hr] at hmem; cases hmem
    exact fun j hj => this (j + 1) j (Nat.lt_succ_self j) hj
  · rintro a w ⟨-, hI⟩
    have hx := rest w hI.ext
    obtain ⟨vs, g1, g2, g3⟩ := forFacts_get (a := a) (os := l.take m) (by rw [hfl, hlt]) hx (fun j o hj => by
      obtain ⟨d, h1, h2, -, -⟩ := flow_dst hok (by simpa using hj)
      have hjm : j < m := by have := (List.getElem?_eq_some_iff.1 hj).1; omega
      obtain ⟨v, k1, k2⟩ := hI.slot j o d (by
        rw [Array.getD_eq_getD_getElem?, Array.getElem?_extract]
        rw [if_pos (by simp [preL]; omega)]
        simp [preL, List.getElem?_append, hjm]) (by simpa using hj) h1
      exact ⟨d, v, h1, k1, k2⟩)
    have ha : a = putAll a0 (l.take m) vs := eq_putAll g1 hI.size hI.defers (fun s hs => hI.base s (fun j o ho => hs o (by
        have : (l.take m)[j]? = some o := by simpa using ho
        exact List.mem_of_getElem? this))) (fun j o d hj hd => by
      obtain ⟨d', h1, h2, -, -⟩ := flow_dst hok (j := j) (by simpa using hj)
      rw [hd] at h1; injection h1 with h1; subst h1
      exact ⟨h2, g3 j o d hj hd⟩)
    rw [ha]; exact g2
  · rw [Array.toList_replicate, List.count_replicate]; simp; omega
  · intro j hj
    rw [Array.getD_eq_getD_getElem?, Array.getElem?_replicate]
    split <;> rfl
  · exact ⟨by simpa using hsz, ⟨(Ext.refl W0).drew, rfl, rfl, fun s _ => rfl, fun j o d h _ _ => by
      rw [Array.getD_eq_getD_getElem?, Array.getElem?_extract] at h
      split at h
      · rw [Array.getElem?_replicate] at h; split at h <;> cases h
      · cases h⟩⟩
end Go.Proofs.Ytjagbnaacfhokaa
