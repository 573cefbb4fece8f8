/- Args, stores and outs of an own net, set one by one. -/
import Derived.Test.YtlafiddfplhafaaFa14
namespace Go.Proofs.Ytlafiddfplhafaa
set_option linter.unusedVariables false
set_option linter.unusedSimpArgs false
set_option linter.unusedVariables false
set_option linter.unusedSimpArgs false
open Go.RowKit
theorem OwnG.out {w : World} {base base' n m : Nat} {s : Value} {gs : List GateM} {vs xs : List Value} {ob c : Nat} (h : OwnG w base s gs vs) (ho : w.ownsRow base' 3 1 (.slice (some ⟨ob, 0, none⟩) n c) m xs) (ha : ∀ v ∈ vs, v.ownBlock ≠ some ob) (k : Nat) (u : Value) : OwnG (w.setCell ⟨ob, k, none⟩ u) base s gs vs := by
  refine h.kept (row := some ob) ⟨rfl, rfl, rfl, by simp, fun i _ hi => heap_setCell_other w ⟨ob, k, none⟩ i u (fun e => hi (by simp [e]))⟩ ?_ fun v hv => .inr (ha v hv)
  rcases own_types h.row ho (by decide) with q | q
  · exact .inl q
  · exact .inr (by simpa [Value.ownBlock] using q)
theorem OwnG.reg {w : World} {base base' n m : Nat} {s : Value} {gs : List GateM} {vs xs : List Value} {rb c : Nat} (h : OwnG w base s gs vs) (ho : w.ownsRow base' 79 2 (.slice (some ⟨rb, 0, none⟩) n c) m xs) (k : Nat) (u : Value) : OwnG (w.setCell ⟨rb, k, none⟩ u) base s gs vs := by
  refine h.kept (row := some rb) ⟨rfl, rfl, rfl, by simp, fun i _ hi => heap_setCell_other w ⟨rb, k, none⟩ i u (fun e => hi (by simp [e]))⟩ ?_ fun v hv => ?_
  · rcases own_types h.row ho (by decide) with q | q
    · exact .inl q
    · exact .inr (by simpa [Value.ownBlock] using q)
  · obtain ⟨j, hj⟩ := List.mem_iff_getElem?.1 hv
    have hk : j < gs.length := by have := h.vl; have := (List.getElem?_eq_some_iff.1 hj).1; omega
    rcases own_types (h.own j v _ hj (List.getElem?_eq_getElem hk)) ho (by decide) with q | q
    · exact .inl q
    · exact .inr (by simpa [Value.ownBlock] using q)
theorem storeCs_set : ∀ (rs : List StoreM) (k : Nat) (r : StoreM) (y : Int), rs[k]? = some r → (storeCs rs).set (k * 2 + 1) (I y) = storeCs (rs.set k ⟨r.fst, y⟩)
  | [], k, r, y, h => by simp at h
  | x :: rs, 0, r, y, h => by simp at h; subst h; simp [storeCs]
  | x :: rs, k + 1, r, y, h => by
    have ih := storeCs_set rs k r y (by simpa using h)
    have e : storeCs (x :: rs) = RB x :: RN x :: storeCs rs := by simp [storeCs]
    rw [e, show (k + 1) * 2 + 1 = k * 2 + 1 + 2 from by omega]
    simp only [List.set_cons_succ, ih]
    simp [storeCs]
end Go.Proofs.Ytlafiddfplhafaa
/- What the smith's memory is behind a store: into a method's own box, into a register, into a row by which an output is put out. -/
namespace Go.Proofs.Ytlafiddfplhafaa
set_option linter.unusedVariables false
set_option linter.unusedSimpArgs false
open Go.RowKit
section
variable {wE w : World} {base b : Nat} {i0 : Int} {pv : Value} {S : SmithM} {V : SmithV}
/-- A store into a box of another type. -/
theorem SmithW.setOther (h : SmithW w base b i0 pv S V) {g : Nat} {T : TypeId} {cs : List Value} (hb : Box w g T cs) (h1 : 74 ≠ T) (h2 : 95 ≠ T) (h3 : 79 ≠ T) (h4 : 3 ≠ T) (h5 : 23 ≠ T) (k : Nat) (u : Value) : SmithW (w.setCell ⟨g, k, none⟩ u) base b i0 pv S V := by
  have nb : g ≠ b := hb.neq h.box (fun e => h1 e.symm)
  have ne : g ≠ V.eb := hb.neq h.ebox (fun e => h5 e.symm)
  refine ⟨h.box.kept (grownBy_set w g k u) (by simpa using nb), h.gates.set (hb.apart h.gates.row h2) (fun v hv => ?_) k u, own_set h.regs (hb.apart h.regs h3) k u, own_set h.outs (hb.apart h.outs h4) k u, own_set h.ins (hb.apart h.ins h4) k u, own_set h.was (hb.apart h.was h4) k u, h.ebox.kept (grownBy_set w g k u) (by simpa using ne), h.el, fun j v r hv hr => own_set (h.em j v r hv hr) (hb.apart (h.em j v r hv hr) h4) k u, h.ge⟩
  obtain ⟨j, hj⟩ := List.mem_iff_getElem?.1 hv
  have hl : j < S.gs.length := by have := (List.getElem?_eq_some_iff.1 hj).1; have := h.gates.vl; omega
  exact hb.apart (h.gates.own j v _ hj (List.getElem?_eq_getElem hl)) h4
theorem MadeP.setNew (h : MadeP wE w base b i0 pv S) (hbase : base ≤ wE.heap.size) {g : Nat} {T : TypeId} {cs : List Value} (hb : Box w g T cs) (hg : wE.heap.size ≤ g) (h1 : 74 ≠ T) (h2 : 95 ≠ T) (h3 : 79 ≠ T) (h4 : 3 ≠ T) (h5 : 23 ≠ T) (k : Nat) (u : Value) : MadeP wE (w.setCell ⟨g, k, none⟩ u) base b i0 pv S := by
  obtain ⟨V, hS, hsep, hgh⟩ := h.sm
  have hS' := hS.setOther hb h1 h2 h3 h4 h5 k u
  refine ⟨h.below.setCell (p := ⟨g, k, none⟩) (Nat.le_trans hbase hg) u, ⟨Nat.le_trans h.rel.1 (by simp [World.setCell]), fun j hj hf => ?_⟩, V, hS', hsep, hgh⟩
  have q := h.rel.2 j hj hf
  refine ⟨?_, fun e => q.2 ((hS.foot j).2 ((hS'.foot j).1 e))⟩
  rw [Below.heap_setCell _ _ _ _ (show j ≠ g by omega)]; exact q.1
/-- A register's next gate. -/
theorem SmithW.setNext (h : SmithW w base b i0 pv S V) {rb rn rc : Nat} (hv : V.rv = .slice (some ⟨rb, 0, none⟩) rn rc) {n : Nat} {r : StoreM} (hr : S.rs[n]? = some r) (x : Int) : SmithW (w.setCell ⟨rb, n * 2 + 1, none⟩ (I x)) base b i0 pv { S with rs := S.rs.set n ⟨r.fst, x⟩ } V := by
  have hrow := h.regs
  rw [hv] at hrow
  have hn : rn = S.rs.length := by
    obtain ⟨A, c, e, -⟩ := own_slice hrow
    injection e
  have nb : rb ≠ b := fun e => by
    have := h.box.apart h.regs (by decide)
    rw [hv] at this
    exact this (by simp [Value.ownBlock, e])
  have ne : rb ≠ V.eb := fun e => by
    have := h.ebox.apart h.regs (by decide)
    rw [hv] at this
    exact this (by simp [Value.ownBlock, e])
  have ap : ∀ {e : TypeId} {size m : Nat} {v : Value} {xs : List Value}, w.ownsRow base e size v m xs → e ≠ 79 → v.ownBlock ≠ some rb := fun ho hne => by
    rcases own_types ho hrow hne with q | q
    · rw [q]; simp
    · simpa [Value.ownBlock] using q
  refine ⟨h.box.kept (grownBy_set w rb _ _) (by simpa using nb), h.gates.set (ap h.gates.row (by decide)) (fun v hv => ?_) _ _, ?_, own_set h.outs (ap h.outs (by decide)) _ _, own_set h.ins (ap h.ins (by decide)) _ _, own_set h.was (ap h.was (by decide)) _ _, h.ebox.kept (grownBy_set w rb _ _) (by simpa using ne), h.el, fun j v r hv hr => own_set (h.em j v r hv hr) (ap (h.em j v r hv hr) (by decide)) _ _, h.ge⟩
  · obtain ⟨j, hj⟩ := List.mem_iff_getElem?.1 hv
    have hl : j < S.gs.length := by have := (List.getElem?_eq_some_iff.1 hj).1; have := h.gates.vl; omega
    exact ap (h.gates.own j v _ hj (List.getElem?_eq_getElem hl)) (by decide)
  · show World.ownsRow _ base 79 2 V.rv (S.rs.set n ⟨r.fst, x⟩).length _
    rw [List.length_set, ← storeCs_set S.rs n r x hr, hv, ← hn]
    rw [← hn] at hrow
    exact (hrow.stored (n * 2 + 1) (I x)).1
theorem MadeP.setNext (h : MadeP wE w base b i0 pv S) {rb rn rc : Nat} (hv : S.rv = .slice (some ⟨rb, 0, none⟩) rn rc) {n : Nat} {r : StoreM} (hr : S.rs[n]? = some r) (x : Int) (hf : ∀ k, k < wE.heap.size → ¬ FootW b wE k → k ≠ rb) : MadeP wE (w.setCell ⟨rb, n * 2 + 1, none⟩ (I x)) base b i0 pv { S with rs := S.rs.set n ⟨r.fst, x⟩ } := by
  obtain ⟨V, hS, hsep, e1, hgh⟩ := h.sm
  have hv' : V.rv = .slice (some ⟨rb, 0, none⟩) rn rc := e1.trans hv
  have hS' := hS.setNext hv' hr x
  have hrow := hS.regs
  rw [hv'] at hrow
  refine ⟨h.below.setCell (p := ⟨rb, n * 2 + 1, none⟩) (hrow.lt rb rfl).1 _, ⟨Nat.le_trans h.rel.1 (by simp [World.setCell]), fun j hj hfj => ?_⟩, V, hS', hsep, e1, hgh⟩
  have q := h.rel.2 j hj hfj
  refine ⟨?_, fun e => q.2 ((hS.foot j).2 ((hS'.foot j).1 e))⟩
  rw [Below.heap_setCell _ _ _ _ (show j ≠ rb from hf j hj hfj)]; exact q.1
/-- What is no part of what may be written at the begin is not the row of registers. -/
theorem MadeP.regs_apart (h : MadeP wE w base b i0 pv S) {rb rn rc : Nat} (hv : S.rv = .slice (some ⟨rb, 0, none⟩) rn rc) : ∀ k, k < wE.heap.size → ¬ FootW b wE k → k ≠ rb := fun k hk hf e => by
  obtain ⟨V, hS, -, e1, -⟩ := h.sm
  exact (h.rel.2 k hk hf).2 ((hS.foot k).2 (.inr (.inr (.inl (by rw [e1, hv, e]; rfl)))))
end
end Go.Proofs.Ytlafiddfplhafaa
/- An output's row of gates grows by one. -/
namespace Go.Proofs.Ytlafiddfplhafaa
set_option linter.unusedVariables false
set_option linter.unusedSimpArgs false
open Go.RowKit
section
variable {wE w w' : World} {base b : Nat} {i0 : Int} {pv : Value} {S : SmithM} {V : SmithV}
theorem own_lt {e : TypeId} {size n : Nat} {v : Value} {xs : List Value} (h : w.ownsRow base e size v n xs) {g : Nat} (hg : v.ownBlock = some g) : g < w.heap.size := (h.lt g hg).2
theorem SmithW.gasOwn (h : SmithW w base b i0 pv S V) {v : Value} (hv : v ∈ V.gas) : ∃ n xs, w.ownsRow base 3 1 v n xs := by
  obtain ⟨j, hj⟩ := List.mem_iff_getElem?.1 hv
  have hl : j < S.gs.length := by have := (List.getElem?_eq_some_iff.1 hj).1; have := h.gates.vl; omega
  exact ⟨_, _, h.gates.own j v _ hj (List.getElem?_eq_getElem hl)⟩
theorem SmithW.emit (h : SmithW w base b i0 pv S V) (hsep : NodeSep V) {k : Nat} {e e' : Value} {l : List Int} {x : Int} (he : V.es[k]? = some e) (hl : S.em[k]? = some l) (hg : w.grownBy w' e.ownBlock) (hown : w'.ownsRow base 3 1 e' (l.length + 1) (l.map I ++ [I x]))
    (hf : ∀ g, e'.ownBlock = some g → e.ownBlock = some g ∨ w.heap.size ≤ g) :
    SmithW (w'.setCell ⟨V.eb, k, none⟩ e') base b i0 pv { S with em := S.em.set k (l ++ [x]) } { V with es := V.es.set k e' } ∧ NodeSep { V with es := V.es.set k e' } := by
  have hek := h.em k e l he hl
  have ne : ∀ {v : Value}, (∀ g, e.ownBlock = some g → v.ownBlock ≠ some g) → v.ownBlock = none ∨ v.ownBlock ≠ e.ownBlock := fun {v} hv => by
    cases hb : e.ownBlock with
    | none => cases hv2 : v.ownBlock with
      | none => exact .inl rfl
      | some g => exact .inr (by simp)
    | some g => exact .inr (by have := hv g hb; exact this)
  have s1 : ∀ v ∈ V.gas, ∀ g, e.ownBlock = some g → v.ownBlock ≠ some g := fun v hv g hg => (hsep.2 k e he g hg).1 v hv
  have kb := h.box.kept hg (h.box.apart hek (by decide))
  have ke := h.ebox.kept hg (h.ebox.apart hek (by decide))
  have kg := h.gates.kept hg (own_types h.gates.row hek (by decide)) (fun v hv => ne (s1 v hv))
  have kr := h.regs.kept hg (own_types h.regs hek (by decide))
  have ko := h.outs.kept hg (ne fun g q => (hsep.2 k e he g q).2.1)
  have ki := h.ins.kept hg (ne fun g q => (hsep.2 k e he g q).2.2.1)
  have kw := h.was.kept hg (ne fun g q => (hsep.2 k e he g q).2.2.2.1)
  have hkl : k < V.es.length := (List.getElem?_eq_some_iff.1 he).1
  have hkl2 : k < S.em.length := (List.getElem?_eq_some_iff.1 hl).1
  have bne : V.eb ≠ b := h.ebox.neq h.box (by decide)
  refine ⟨⟨kb.kept (grownBy_set w' V.eb k e') (by simpa using bne), kg.set (ke.apart kg.row (by decide)) (fun v hv => ?_) k e', own_set kr (ke.apart kr (by decide)) k e', own_set ko (ke.apart ko (by decide)) k e', own_set ki (ke.apart ki (by decide)) k e', own_set kw (ke.apart kw (by decide)) k e', ke.set k e', ⟨by simpa using h.el.1, by simpa using h.el.2⟩, fun j v r hv hr => ?_, h.ge⟩, ⟨hsep.1, fun j u hu g hgu => ?_⟩⟩
  · obtain ⟨j, hj⟩ := List.mem_iff_getElem?.1 hv
    have hl : j < S.gs.length := by have := (List.getElem?_eq_some_iff.1 hj).1; have := kg.vl; omega
    exact ke.apart (kg.own j v _ hj (List.getElem?_eq_getElem hl)) (by decide)
  · by_cases hjk : j = k
    · subst hjk
      rw [List.getElem?_set_self hkl] at hv
      rw [List.getElem?_set_self hkl2] at hr
      injection hv with hv; injection hr with hr
      subst hv; subst hr
      have : w'.ownsRow base 3 1 e' (l ++ [x]).length ((l ++ [x]).map I) := by simpa using hown
      exact own_set this (ke.apart this (by decide)) j e'
    · have hv' : V.es[j]? = some v := by
        have : (V.es.set k e')[j]? = some v := hv
        rwa [List.getElem?_set_ne (fun q => hjk q.symm)] at this
      have hr' : S.em[j]? = some r := by
        have : (S.em.set k (l ++ [x]))[j]? = some r := hr
        rwa [List.getElem?_set_ne (fun q => hjk q.symm)] at this
      have k1 := (h.em j v r hv' hr').kept hg (ne fun g q => (hsep.2 k e he g q).2.2.2.2 j v hjk hv')
      exact own_set k1 (ke.apart k1 (by decide)) k e'
  · have hu' : (V.es.set k e')[j]? = some u := hu
    by_cases hjk : j = k
    · subst hjk
      rw [List.getElem?_set_self hkl] at hu'
      injection hu' with hu'; subst hu'
      rcases hf g hgu with q | q
      · obtain ⟨a1, a2, a3, a4, a5⟩ := hsep.2 j e he g q
        refine ⟨a1, a2, a3, a4, fun i y hi hy => a5 i y hi ?_⟩
        have : (V.es.set j e')[i]? = some y := hy
        rwa [List.getElem?_set_ne (fun q => hi q.symm)] at this
      · refine ⟨fun v hv e2 => ?_, fun e2 => ?_, fun e2 => ?_, fun e2 => ?_, fun i y hi hy e2 => ?_⟩
        · obtain ⟨n, xs, ho⟩ := h.gasOwn hv
          have := own_lt ho e2; omega
        · have := own_lt h.outs e2; omega
        · have := own_lt h.ins e2; omega
        · have := own_lt h.was e2; omega
        · have hy' : V.es[i]? = some y := by
            have : (V.es.set j e')[i]? = some y := hy
            rwa [List.getElem?_set_ne (fun q => hi q.symm)] at this
          obtain ⟨n, xs, ho⟩ := h.esOwn (List.mem_of_getElem? hy')
          have := own_lt ho e2; omega
    · rw [List.getElem?_set_ne (fun q => hjk q.symm)] at hu'
      obtain ⟨a1, a2, a3, a4, a5⟩ := hsep.2 j u hu' g hgu
      refine ⟨a1, a2, a3, a4, fun i y hi hy e2 => ?_⟩
      have hy2 : (V.es.set k e')[i]? = some y := hy
      by_cases hik : i = k
      · subst hik
        rw [List.getElem?_set_self hkl] at hy2
        injection hy2 with hy2; subst hy2
        rcases hf g e2 with q | q
        · exact a5 i e (fun e => hi e) he q
        · obtain ⟨n, xs, ho⟩ := h.esOwn (List.mem_of_getElem? hu')
          have := own_lt ho hgu; omega
      · rw [List.getElem?_set_ne (fun q => hik q.symm)] at hy2
        exact a5 i y hi hy2 e2
theorem NodeI.emit {L : List (Nat × TypeId × List Value)} (h : NodeI wE base b i0 pv L S w) {k : Nat} {e e' : Value} {l : List Int} {x : Int} (he : S.es[k]? = some e) (hl : S.em[k]? = some l) (hg : w.grownBy w' e.ownBlock) (hown : w'.ownsRow base 3 1 e' (l.length + 1) (l.map I ++ [I x]))
    (hf : ∀ g, e'.ownBlock = some g → e.ownBlock = some g ∨ w.heap.size ≤ g) : NodeI wE base b i0 pv L { S with em := S.em.set k (l ++ [x]), es := S.es.set k e' } (w'.setCell ⟨S.eb, k, none⟩ e') := by
  obtain ⟨V, hS, hsep, e1, e2, e3, e4, e5⟩ := h.sm
  obtain ⟨k1, k2⟩ := hS.emit hsep (by rw [e5]; exact he) hl hg hown hf
  rw [e4] at k1
  have k1' : SmithW (w'.setCell ⟨S.eb, k, none⟩ e') base b i0 pv { S with em := S.em.set k (l ++ [x]), es := S.es.set k e' } _ := ⟨k1.box, k1.gates, k1.regs, k1.outs, k1.ins, k1.was, k1.ebox, k1.el, k1.em, k1.ge⟩
  have hge : ∀ g, e.ownBlock = some g → base ≤ g := fun g q => ((hS.em k e l (by rw [e5]; exact he) hl).lt g q).1
  refine h.step ⟨(Below.grown (w := w) (Below.refl base w) hg h.sm.size.1 (fun g q => hge g q)).setCell (p := ⟨S.eb, k, none⟩) (by rw [← e4]; exact hS.ge.2) _, ⟨Nat.le_trans hg.size (by simp [World.setCell]), fun j hj hfj => ?_⟩, _, k1', k2, e1, e2, e3, rfl, by show V.es.set k e' = S.es.set k e'; rw [e5]⟩
  have hf0 := hS.foot j
  have jb : j ≠ S.eb := fun q => hfj (hf0.2 (.inr (.inr (.inr (.inr (.inr (.inr (.inl (by rw [e4]; exact q)))))))))
  have je : some j ≠ e.ownBlock := fun q => hfj (hf0.2 (.inr (.inr (.inr (.inr (.inr (.inr (.inr ⟨e, by rw [e5]; exact List.mem_of_getElem? he, q.symm⟩))))))))
  refine ⟨?_, fun q => ?_⟩
  · rw [Below.heap_setCell _ _ _ _ (show j ≠ S.eb from jb)]; exact hg.block j hj je
  · rcases (k1.foot j).1 q with a | a | a | a | a | a | a | ⟨v, hv, a⟩
    · exact hfj (hf0.2 (.inl a))
    · exact hfj (hf0.2 (.inr (.inl a)))
    · exact hfj (hf0.2 (.inr (.inr (.inl a))))
    · exact hfj (hf0.2 (.inr (.inr (.inr (.inl a)))))
    · exact hfj (hf0.2 (.inr (.inr (.inr (.inr (.inl a))))))
    · exact hfj (hf0.2 (.inr (.inr (.inr (.inr (.inr (.inl a)))))))
    · exact hfj (hf0.2 (.inr (.inr (.inr (.inr (.inr (.inr (.inl (by rw [e4]; exact a)))))))))
    · have hv' : v ∈ V.es.set k e' := hv
      rcases List.mem_or_eq_of_mem_set hv' with q2 | q2
      · exact hfj (hf0.2 (.inr (.inr (.inr (.inr (.inr (.inr (.inr ⟨v, q2, a⟩))))))))
      · subst q2
        rcases hf j a with q3 | q3
        · exact je q3.symm
        · omega
end
end Go.Proofs.Ytlafiddfplhafaa
/- The smith's rows of numbers grow by one. (Printed by forgepush.py.) -/
namespace Go.Proofs.Ytlafiddfplhafaa
set_option linter.unusedVariables false
set_option linter.unusedSimpArgs false
open Go.RowKit
section
variable {w w' : World} {base b : Nat} {i0 : Int} {pv : Value} {S : SmithM} {V : SmithV}
/-- The row lies apart from all other rows of numbers. -/
def Sep_outs (V : SmithV) : Prop := ∀ g, V.ov.ownBlock = some g → (∀ u ∈ V.gas, u.ownBlock ≠ some g) ∧ V.iv.ownBlock ≠ some g ∧ V.wv.ownBlock ≠ some g ∧ ∀ u ∈ V.es, u.ownBlock ≠ some g
theorem SmithW.push_outs (h : SmithW w base b i0 pv S V) (hsep : Sep_outs V) {e' : Value} {x : Int} (hg : w.grownBy w' V.ov.ownBlock) (hown : w'.ownsRow base 3 1 e' (S.outs.length + 1) (S.outs.map I ++ [I x])) (hf : ∀ g, e'.ownBlock = some g → V.ov.ownBlock = some g ∨ w.heap.size ≤ g) :
    SmithW (w'.setCell ⟨b, 3, none⟩ e') base b i0 pv { S with outs := S.outs ++ [x] } { V with ov := e' } ∧ Sep_outs { V with ov := e' } ∧ RelF b w (w'.setCell ⟨b, 3, none⟩ e') := by
  have hek := h.outs
  have ne : ∀ {u : Value}, (∀ g, V.ov.ownBlock = some g → u.ownBlock ≠ some g) → u.ownBlock = none ∨ u.ownBlock ≠ V.ov.ownBlock := fun {u} hv => by
    cases hb : V.ov.ownBlock with
    | none => cases hv2 : u.ownBlock with
      | none => exact .inl rfl
      | some g => exact .inr (by simp)
    | some g => exact .inr (by have := hv g hb; exact this)
  have kb := h.box.kept hg (h.box.apart hek (by decide))
  have ke := h.ebox.kept hg (h.ebox.apart hek (by decide))
  have kg := h.gates.kept hg (own_types h.gates.row hek (by decide)) (fun v hv => ne (fun g q => (hsep g q).1 v hv))
  have kr := h.regs.kept hg (own_types h.regs hek (by decide))
  have k_ins := h.ins.kept hg (ne fun g q => (hsep g q).2.1)
  have k_was := h.was.kept hg (ne fun g q => (hsep g q).2.2.1)
  have k_outs : w'.ownsRow base 3 1 e' (S.outs ++ [x]).length ((S.outs ++ [x]).map I) := by simpa using hown
  have bne : b ≠ V.eb := fun q => h.ebox.neq h.box (by decide) q.symm
  have hS' : SmithW (w'.setCell ⟨b, 3, none⟩ e') base b i0 pv { S with outs := S.outs ++ [x] } { V with ov := e' } := by
    refine ⟨kb.set 3 e', kg.set (kb.apart kg.row (by decide)) (fun v hv => ?_) 3 e', own_set kr (kb.apart kr (by decide)) 3 e', own_set k_outs (kb.apart k_outs (by decide)) 3 e', own_set k_ins (kb.apart k_ins (by decide)) 3 e', own_set k_was (kb.apart k_was (by decide)) 3 e', ke.kept (grownBy_set w' b 3 e') (by simpa using bne), h.el, fun i v r hv hr => ?_, h.ge⟩
    · obtain ⟨i, hi⟩ := List.mem_iff_getElem?.1 hv
      have hl : i < S.gs.length := by have := (List.getElem?_eq_some_iff.1 hi).1; have := kg.vl; omega
      exact kb.apart (kg.own i v _ hi (List.getElem?_eq_getElem hl)) (by decide)
    · have k1 := (h.em i v r hv hr).kept hg (ne fun g q => (hsep g q).2.2.2 v (List.mem_of_getElem? hv))
      exact own_set k1 (kb.apart k1 (by decide)) 3 e'
  refine ⟨hS', fun g hgq => ?_, ⟨Nat.le_trans hg.size (by simp [World.setCell]), fun k hk hfk => ⟨?_, fun q => ?_⟩⟩⟩
  · rcases hf g hgq with q | q
    · exact hsep g q
    · refine ⟨fun u hu e2 => ?_, fun e2 => ?_, fun e2 => ?_, fun u hu e2 => ?_⟩
      · obtain ⟨n, xs, ho⟩ := h.gasOwn hu
        have := own_lt ho e2; omega
      · have := own_lt h.ins e2; omega
      · have := own_lt h.was e2; omega
      · obtain ⟨n, xs, ho⟩ := h.esOwn hu
        have := own_lt ho e2; omega
  · have kb' : k ≠ b := fun q => hfk (by rw [q]; exact .inl rfl)
    rw [Below.heap_setCell _ _ _ _ (show k ≠ b from kb')]
    exact hg.block k hk (fun q => hfk ((h.foot k).2 (by rw [← q]; simp)))
  · have hf0 := h.foot k
    rcases (hS'.foot k).1 q with a | a | a | a | a | a | a | a
    · exact hfk (hf0.2 (.inl a))
    · exact hfk (hf0.2 (.inr (.inl a)))
    · exact hfk (hf0.2 (.inr (.inr (.inl a))))
    · rcases hf k a with q2 | q2
      · exact hfk (hf0.2 (.inr (.inr (.inr (.inl q2)))))
      · omega
    · exact hfk (hf0.2 (.inr (.inr (.inr (.inr (.inl a))))))
    · exact hfk (hf0.2 (.inr (.inr (.inr (.inr (.inr (.inl a)))))))
    · exact hfk (hf0.2 (.inr (.inr (.inr (.inr (.inr (.inr (.inl a))))))))
    · exact hfk (hf0.2 (.inr (.inr (.inr (.inr (.inr (.inr (.inr a))))))))
/-- The row lies apart from all other rows of numbers. -/
def Sep_ins (V : SmithV) : Prop := ∀ g, V.iv.ownBlock = some g → (∀ u ∈ V.gas, u.ownBlock ≠ some g) ∧ V.ov.ownBlock ≠ some g ∧ V.wv.ownBlock ≠ some g ∧ ∀ u ∈ V.es, u.ownBlock ≠ some g
theorem SmithW.push_ins (h : SmithW w base b i0 pv S V) (hsep : Sep_ins V) {e' : Value} {x : Int} (hg : w.grownBy w' V.iv.ownBlock) (hown : w'.ownsRow base 3 1 e' (S.ins.length + 1) (S.ins.map I ++ [I x])) (hf : ∀ g, e'.ownBlock = some g → V.iv.ownBlock = some g ∨ w.heap.size ≤ g) :
    SmithW (w'.setCell ⟨b, 5, none⟩ e') base b i0 pv { S with ins := S.ins ++ [x] } { V with iv := e' } ∧ Sep_ins { V with iv := e' } ∧ RelF b w (w'.setCell ⟨b, 5, none⟩ e') := by
  have hek := h.ins
  have ne : ∀ {u : Value}, (∀ g, V.iv.ownBlock = some g → u.ownBlock ≠ some g) → u.ownBlock = none ∨ u.ownBlock ≠ V.iv.ownBlock := fun {u} hv => by
    cases hb : V.iv.ownBlock with
    | none => cases hv2 : u.ownBlock with
      | none => exact .inl rfl
      | some g => exact .inr (by simp)
    | some g => exact .inr (by have := hv g hb; exact this)
  have kb := h.box.kept hg (h.box.apart hek (by decide))
  have ke := h.ebox.kept hg (h.ebox.apart hek (by decide))
  have kg := h.gates.kept hg (own_types h.gates.row hek (by decide)) (fun v hv => ne (fun g q => (hsep g q).1 v hv))
  have kr := h.regs.kept hg (own_types h.regs hek (by decide))
  have k_outs := h.outs.kept hg (ne fun g q => (hsep g q).2.1)
  have k_was := h.was.kept hg (ne fun g q => (hsep g q).2.2.1)
  have k_ins : w'.ownsRow base 3 1 e' (S.ins ++ [x]).length ((S.ins ++ [x]).map I) := by simpa using hown
  have bne : b ≠ V.eb := fun q => h.ebox.neq h.box (by decide) q.symm
  have hS' : SmithW (w'.setCell ⟨b, 5, none⟩ e') base b i0 pv { S with ins := S.ins ++ [x] } { V with iv := e' } := by
    refine ⟨kb.set 5 e', kg.set (kb.apart kg.row (by decide)) (fun v hv => ?_) 5 e', own_set kr (kb.apart kr (by decide)) 5 e', own_set k_outs (kb.apart k_outs (by decide)) 5 e', own_set k_ins (kb.apart k_ins (by decide)) 5 e', own_set k_was (kb.apart k_was (by decide)) 5 e', ke.kept (grownBy_set w' b 5 e') (by simpa using bne), h.el, fun i v r hv hr => ?_, h.ge⟩
    · obtain ⟨i, hi⟩ := List.mem_iff_getElem?.1 hv
      have hl : i < S.gs.length := by have := (List.getElem?_eq_some_iff.1 hi).1; have := kg.vl; omega
      exact kb.apart (kg.own i v _ hi (List.getElem?_eq_getElem hl)) (by decide)
    · have k1 := (h.em i v r hv hr).kept hg (ne fun g q => (hsep g q).2.2.2 v (List.mem_of_getElem? hv))
      exact own_set k1 (kb.apart k1 (by decide)) 5 e'
  refine ⟨hS', fun g hgq => ?_, ⟨Nat.le_trans hg.size (by simp [World.setCell]), fun k hk hfk => ⟨?_, fun q => ?_⟩⟩⟩
  · rcases hf g hgq with q | q
    · exact hsep g q
    · refine ⟨fun u hu e2 => ?_, fun e2 => ?_, fun e2 => ?_, fun u hu e2 => ?_⟩
      · obtain ⟨n, xs, ho⟩ := h.gasOwn hu
        have := own_lt ho e2; omega
      · have := own_lt h.outs e2; omega
      · have := own_lt h.was e2; omega
      · obtain ⟨n, xs, ho⟩ := h.esOwn hu
        have := own_lt ho e2; omega
  · have kb' : k ≠ b := fun q => hfk (by rw [q]; exact .inl rfl)
    rw [Below.heap_setCell _ _ _ _ (show k ≠ b from kb')]
    exact hg.block k hk (fun q => hfk ((h.foot k).2 (by rw [← q]; simp)))
  · have hf0 := h.foot k
    rcases (hS'.foot k).1 q with a | a | a | a | a | a | a | a
    · exact hfk (hf0.2 (.inl a))
    · exact hfk (hf0.2 (.inr (.inl a)))
    · exact hfk (hf0.2 (.inr (.inr (.inl a))))
    · exact hfk (hf0.2 (.inr (.inr (.inr (.inl a)))))
    · rcases hf k a with q2 | q2
      · exact hfk (hf0.2 (.inr (.inr (.inr (.inr (.inl q2))))))
      · omega
    · exact hfk (hf0.2 (.inr (.inr (.inr (.inr (.inr (.inl a)))))))
    · exact hfk (hf0.2 (.inr (.inr (.inr (.inr (.inr (.inr (.inl a))))))))
    · exact hfk (hf0.2 (.inr (.inr (.inr (.inr (.inr (.inr (.inr a))))))))
/-- The row lies apart from all other rows of numbers. -/
def Sep_was (V : SmithV) : Prop := ∀ g, V.wv.ownBlock = some g → (∀ u ∈ V.gas, u.ownBlock ≠ some g) ∧ V.ov.ownBlock ≠ some g ∧ V.iv.ownBlock ≠ some g ∧ ∀ u ∈ V.es, u.ownBlock ≠ some g
theorem SmithW.push_was (h : SmithW w base b i0 pv S V) (hsep : Sep_was V) {e' : Value} {x : Int} (hg : w.grownBy w' V.wv.ownBlock) (hown : w'.ownsRow base 3 1 e' (S.was.length + 1) (S.was.map I ++ [I x])) (hf : ∀ g, e'.ownBlock = some g → V.wv.ownBlock = some g ∨ w.heap.size ≤ g) :
    SmithW (w'.setCell ⟨b, 6, none⟩ e') base b i0 pv { S with was := S.was ++ [x] } { V with wv := e' } ∧ Sep_was { V with wv := e' } ∧ RelF b w (w'.setCell ⟨b, 6, none⟩ e') := by
  have hek := h.was
  have ne : ∀ {u : Value}, (∀ g, V.wv.ownBlock = some g → u.ownBlock ≠ some g) → u.ownBlock = none ∨ u.ownBlock ≠ V.wv.ownBlock := fun {u} hv => by
    cases hb : V.wv.ownBlock with
    | none => cases hv2 : u.ownBlock with
      | none => exact .inl rfl
      | some g => exact .inr (by simp)
    | some g => exact .inr (by have := hv g hb; exact this)
  have kb := h.box.kept hg (h.box.apart hek (by decide))
  have ke := h.ebox.kept hg (h.ebox.apart hek (by decide))
  have kg := h.gates.kept hg (own_types h.gates.row hek (by decide)) (fun v hv => ne (fun g q => (hsep g q).1 v hv))
  have kr := h.regs.kept hg (own_types h.regs hek (by decide))
  have k_outs := h.outs.kept hg (ne fun g q => (hsep g q).2.1)
  have k_ins := h.ins.kept hg (ne fun g q => (hsep g q).2.2.1)
  have k_was : w'.ownsRow base 3 1 e' (S.was ++ [x]).length ((S.was ++ [x]).map I) := by simpa using hown
  have bne : b ≠ V.eb := fun q => h.ebox.neq h.box (by decide) q.symm
  have hS' : SmithW (w'.setCell ⟨b, 6, none⟩ e') base b i0 pv { S with was := S.was ++ [x] } { V with wv := e' } := by
    refine ⟨kb.set 6 e', kg.set (kb.apart kg.row (by decide)) (fun v hv => ?_) 6 e', own_set kr (kb.apart kr (by decide)) 6 e', own_set k_outs (kb.apart k_outs (by decide)) 6 e', own_set k_ins (kb.apart k_ins (by decide)) 6 e', own_set k_was (kb.apart k_was (by decide)) 6 e', ke.kept (grownBy_set w' b 6 e') (by simpa using bne), h.el, fun i v r hv hr => ?_, h.ge⟩
    · obtain ⟨i, hi⟩ := List.mem_iff_getElem?.1 hv
      have hl : i < S.gs.length := by have := (List.getElem?_eq_some_iff.1 hi).1; have := kg.vl; omega
      exact kb.apart (kg.own i v _ hi (List.getElem?_eq_getElem hl)) (by decide)
    · have k1 := (h.em i v r hv hr).kept hg (ne fun g q => (hsep g q).2.2.2 v (List.mem_of_getElem? hv))
      exact own_set k1 (kb.apart k1 (by decide)) 6 e'
  refine ⟨hS', fun g hgq => ?_, ⟨Nat.le_trans hg.size (by simp [World.setCell]), fun k hk hfk => ⟨?_, fun q => ?_⟩⟩⟩
  · rcases hf g hgq with q | q
    · exact hsep g q
    · refine ⟨fun u hu e2 => ?_, fun e2 => ?_, fun e2 => ?_, fun u hu e2 => ?_⟩
      · obtain ⟨n, xs, ho⟩ := h.gasOwn hu
        have := own_lt ho e2; omega
      · have := own_lt h.outs e2; omega
      · have := own_lt h.ins e2; omega
      · obtain ⟨n, xs, ho⟩ := h.esOwn hu
        have := own_lt ho e2; omega
  · have kb' : k ≠ b := fun q => hfk (by rw [q]; exact .inl rfl)
    rw [Below.heap_setCell _ _ _ _ (show k ≠ b from kb')]
    exact hg.block k hk (fun q => hfk ((h.foot k).2 (by rw [← q]; simp)))
  · have hf0 := h.foot k
    rcases (hS'.foot k).1 q with a | a | a | a | a | a | a | a
    · exact hfk (hf0.2 (.inl a))
    · exact hfk (hf0.2 (.inr (.inl a)))
    · exact hfk (hf0.2 (.inr (.inr (.inl a))))
    · exact hfk (hf0.2 (.inr (.inr (.inr (.inl a)))))
    · exact hfk (hf0.2 (.inr (.inr (.inr (.inr (.inl a))))))
    · rcases hf k a with q2 | q2
      · exact hfk (hf0.2 (.inr (.inr (.inr (.inr (.inr (.inl q2)))))))
      · omega
    · exact hfk (hf0.2 (.inr (.inr (.inr (.inr (.inr (.inr (.inl a))))))))
    · exact hfk (hf0.2 (.inr (.inr (.inr (.inr (.inr (.inr (.inr a))))))))
end
end Go.Proofs.Ytlafiddfplhafaa
/- The smith ahead of its nodes: no args, no emits; inputs and registers of outputs are laid. -/
namespace Go.Proofs.Ytlafiddfplhafaa
set_option linter.unusedVariables false
set_option linter.unusedSimpArgs false
open Go.RowKit
section
variable {wE w w' : World} {base b : Nat} {i0 : Int} {pv : Value} {S : SmithM} {V : SmithV}
theorem foot_of (h1 : Box w b 74 (V.cells i0 pv)) (h2 : Box w V.eb 23 V.es) (k : Nat) : FootW b w k ↔ (k = b ∨ V.gv.ownBlock = some k ∨ V.rv.ownBlock = some k ∨ V.ov.ownBlock = some k ∨ V.iv.ownBlock = some k ∨ V.wv.ownBlock = some k ∨ k = V.eb ∨ ∃ v ∈ V.es, v.ownBlock = some k) := by
  have hc := h1.cell
  have he := h2.cell
  constructor
  · rintro (rfl | ⟨i, v, h4, h1, h2⟩ | ⟨eb, n, c, i, v, h1, h2, h3⟩)
    · exact .inl rfl
    · rw [hc i] at h1
      rcases i with _ | _ | _ | _ | _ | _ | _ | _ | i
      all_goals simp only [List.getElem?_cons_zero, List.getElem?_cons_succ, List.getElem?_nil, Option.some.injEq, reduceCtorEq] at h1
      · subst h1; simp [Value.ownBlock] at h2
      · subst h1; exact .inr (.inl h2)
      · subst h1; exact .inr (.inr (.inl h2))
      · subst h1; exact .inr (.inr (.inr (.inl h2)))
      · exact absurd rfl h4
      · subst h1; exact .inr (.inr (.inr (.inr (.inl h2))))
      · subst h1; exact .inr (.inr (.inr (.inr (.inr (.inl h2)))))
      · subst h1
        simp only [Value.ownBlock, Option.some.injEq] at h2
        exact .inr (.inr (.inr (.inr (.inr (.inr (.inl h2.symm))))))
    · rw [hc 7] at h1
      simp only [List.getElem?_cons_zero, List.getElem?_cons_succ, Option.some.injEq, Value.slice.injEq, Addr.mk.injEq] at h1
      obtain ⟨⟨rfl, -⟩, -⟩ := h1
      rw [he i] at h2
      exact .inr (.inr (.inr (.inr (.inr (.inr (.inr ⟨v, List.mem_of_getElem? h2, h3⟩))))))
  · rintro (rfl | e | e | e | e | e | rfl | ⟨v, hv, e⟩)
    · exact .inl rfl
    · exact .inr (.inl ⟨1, V.gv, by decide, by rw [hc]; rfl, e⟩)
    · exact .inr (.inl ⟨2, V.rv, by decide, by rw [hc]; rfl, e⟩)
    · exact .inr (.inl ⟨3, V.ov, by decide, by rw [hc]; rfl, e⟩)
    · exact .inr (.inl ⟨5, V.iv, by decide, by rw [hc]; rfl, e⟩)
    · exact .inr (.inl ⟨6, V.wv, by decide, by rw [hc]; rfl, e⟩)
    · exact .inr (.inl ⟨7, .slice (some ⟨V.eb, 0, none⟩) 3 3, by decide, by rw [hc]; rfl, rfl⟩)
    · obtain ⟨i, hi⟩ := List.mem_iff_getElem?.1 hv
      exact .inr (.inr ⟨V.eb, 3, 3, i, v, by rw [hc]; rfl, by rw [he]; exact hi, e⟩)
/-- A row of numbers that grows changes nothing of what may be written. -/
theorem SmithW.foot_grown (h : SmithW w base b i0 pv S V) {u : Value} {n : Nat} {xs : List Value} (hu : w.ownsRow base 3 1 u n xs) (hg : w.grownBy w' u.ownBlock) (k : Nat) : FootW b w' k ↔ FootW b w k :=
  (foot_of (h.box.kept hg (h.box.apart hu (by decide))) (h.ebox.kept hg (h.ebox.apart hu (by decide))) k).trans (h.foot k).symm
theorem SmithW.rel_grown (h : SmithW w base b i0 pv S V) {u : Value} {n : Nat} {xs : List Value} (hu : w.ownsRow base 3 1 u n xs) (hf : ∀ g, u.ownBlock = some g → FootW b w g) (hg : w.grownBy w' u.ownBlock) : RelF b w w' :=
  ⟨hg.size, fun k hk hfk => ⟨hg.block k hk (fun e => hfk (hf k e.symm)), fun e => hfk ((h.foot_grown hu hg k).1 e)⟩⟩
structure InitV (V : SmithV) (S : SmithM) : Prop where
  gas : ∀ u ∈ V.gas, u.ownBlock = none
  es : ∀ u ∈ V.es, u.ownBlock = none
  ov : V.ov.ownBlock = none
  iw : ∀ g, V.iv.ownBlock = some g → V.wv.ownBlock ≠ some g
  e1 : V.rv = S.rv
  e2 : V.iv = S.iv
  e3 : V.wv = S.wv
  e4 : V.eb = S.eb
  e5 : V.es = S.es
/-- The smith ahead of its nodes. -/
def InitP (w : World) (base b : Nat) (pv : Value) (S : SmithM) : Prop := ∃ V, SmithW w base b 3 pv S V ∧ InitV V S
theorem InitP.ext (h : InitP w base b pv S) (hx : Ext w w') : InitP w' base b pv S ∧ RelF b w w' := let ⟨V, h1, h2⟩ := h; ⟨⟨V, h1.ext hx, h2⟩, h1.rel_ext hx⟩
theorem InitP.sm (h : InitP w base b pv S) : SmithP w base b 3 pv S := by
  obtain ⟨V, h1, h2⟩ := h
  refine ⟨V, h1, ⟨h2.ov, fun k e he g hg => ?_⟩, h2.e1, h2.e2, h2.e3, h2.e4, h2.e5⟩
  rw [h2.es e (List.mem_of_getElem? he)] at hg
  cases hg
structure MadeI (w w' : World) (base b : Nat) (pv : Value) (S : SmithM) : Prop where
  below : Below base w w'
  rel : RelF b w w'
  sm : InitP w' base b pv S
theorem MadeI.trans {w'' : World} {S' : SmithM} (h : MadeI w w' base b pv S) (k : MadeI w' w'' base b pv S') : MadeI w w'' base b pv S' := ⟨h.below.trans k.below, h.rel.trans k.rel, k.sm⟩
theorem InitP.made (h : InitP w base b pv S) : MadeI w w base b pv S := ⟨Below.refl _ _, RelF.refl _ _, h⟩
theorem igate_any (h : InitP w base b pv S) (kd nm : Int) (hl : S.gs.length ≤ 1000) :
    Calls Try.prog 37 #[.pointer (some ⟨b, 0, none⟩), I kd, I nm, .slice none 0 0] w fun e w' => e = .returned (I S.gs.length) ∧ MadeI w w' base b pv (S.pushG ⟨kd, nm, []⟩) := by
  obtain ⟨V, hS, hi⟩ := h
  refine (gate_any hS kd nm (.slice none 0 0) [] (World.ownsRow_nil _ _ _ _) hl).mono fun e w' ⟨h1, h2, h3, gv', h4⟩ => ⟨h1, h2, h3, _, h4, ⟨fun u hu => ?_, hi.es, hi.ov, hi.iw, hi.e1, hi.e2, hi.e3, hi.e4, hi.e5⟩⟩
  rcases List.mem_append.1 hu with q | q
  · exact hi.gas u q
  · simp only [List.mem_cons, List.not_mem_nil, or_false] at q
    subst q; rfl
theorem istore_any (h : InitP w base b pv S) (bg : Bool) (hl : S.gs.length ≤ 1000) (hl2 : S.rs.length ≤ 1000) :
    Calls Try.prog 38 #[.pointer (some ⟨b, 0, none⟩), Bv bg] w fun e w' => ∃ rv', e = .returned (Pr (I S.gs.length) (I S.rs.length)) ∧ MadeI w w' base b pv ((S.pushR ⟨bg, 0⟩ rv').pushG (gReg S.rs.length)) := by
  obtain ⟨V, hS, hi⟩ := h
  refine (store_any hS bg hl hl2).mono fun e w' ⟨h1, h2, h3, rv', gv', h4⟩ => ⟨rv', h1, h2, h3, _, h4, ⟨fun u hu => ?_, hi.es, hi.ov, hi.iw, rfl, hi.e2, hi.e3, hi.e4, hi.e5⟩⟩
  rcases List.mem_append.1 hu with q | q
  · exact hi.gas u q
  · simp only [List.mem_cons, List.not_mem_nil, or_false] at q
    subst q; rfl
theorem InitV.sepI (h : InitV V S) : Sep_ins V := fun g hg => ⟨fun u hu => by rw [h.gas u hu]; simp, by rw [h.ov]; simp, h.iw g hg, fun u hu => by rw [h.es u hu]; simp⟩
theorem InitV.sepW (h : InitV V S) : Sep_was V := fun g hg => ⟨fun u hu => by rw [h.gas u hu]; simp, by rw [h.ov]; simp, fun e => h.iw g e hg, fun u hu => by rw [h.es u hu]; simp⟩
theorem SmithW.ghost {S' : SmithM} (h : SmithW w base b i0 pv S V) (h1 : S'.gs = S.gs) (h2 : S'.rs = S.rs) (h3 : S'.outs = S.outs) (h4 : S'.ins = S.ins) (h5 : S'.was = S.was) (h6 : S'.em = S.em) : SmithW w base b i0 pv S' V :=
  ⟨h.box, by rw [h1]; exact h.gates, by rw [h2]; exact h.regs, by rw [h3]; exact h.outs, by rw [h4]; exact h.ins, by rw [h5]; exact h.was, h.ebox, by rw [h6]; exact h.el, by rw [h6]; exact h.em, h.ge⟩
/-- The row of inputs grows. -/
theorem InitP.pushI (h : InitP w base b pv S) {e' : Value} {x : Int} (hg : w.grownBy w' S.iv.ownBlock) (hown : w'.ownsRow base 3 1 e' (S.ins.length + 1) (S.ins.map I ++ [I x])) (hf : ∀ g, e'.ownBlock = some g → S.iv.ownBlock = some g ∨ w.heap.size ≤ g) :
    MadeI w (w'.setCell ⟨b, 5, none⟩ e') base b pv { S with ins := S.ins ++ [x], iv := e' } := by
  obtain ⟨V, hS, hi⟩ := h
  rw [← hi.e2] at hg hf
  obtain ⟨k1, k2, k3⟩ := hS.push_ins hi.sepI hg hown hf
  refine ⟨(Below.grown (w := w) (Below.refl base w) hg hS.size.1 (fun g q => (hS.ins.lt g q).1)).setCell (p := ⟨b, 5, none⟩) hS.ge.1 _, k3, _, k1.ghost rfl rfl rfl rfl rfl rfl, ⟨hi.gas, hi.es, hi.ov, fun g q => ?_, hi.e1, rfl, hi.e3, hi.e4, hi.e5⟩⟩
  exact (k2 g q).2.2.1
/-- The row of the outputs' registers grows. -/
theorem InitP.pushW (h : InitP w base b pv S) {e' : Value} {x : Int} (hg : w.grownBy w' S.wv.ownBlock) (hown : w'.ownsRow base 3 1 e' (S.was.length + 1) (S.was.map I ++ [I x])) (hf : ∀ g, e'.ownBlock = some g → S.wv.ownBlock = some g ∨ w.heap.size ≤ g) :
    MadeI w (w'.setCell ⟨b, 6, none⟩ e') base b pv { S with was := S.was ++ [x], wv := e' } := by
  obtain ⟨V, hS, hi⟩ := h
  rw [← hi.e3] at hg hf
  obtain ⟨k1, k2, k3⟩ := hS.push_was hi.sepW hg hown hf
  refine ⟨(Below.grown (w := w) (Below.refl base w) hg hS.size.1 (fun g q => (hS.was.lt g q).1)).setCell (p := ⟨b, 6, none⟩) hS.ge.1 _, k3, _, k1.ghost rfl rfl rfl rfl rfl rfl, ⟨hi.gas, hi.es, hi.ov, fun g q e => ?_, hi.e1, hi.e2, rfl, hi.e4, hi.e5⟩⟩
  exact (k2 g e).2.2.1 q
theorem InitP.setNext (h : InitP w base b pv S) {rb rn rc : Nat} (hv : S.rv = .slice (some ⟨rb, 0, none⟩) rn rc) {m : Nat} {r : StoreM} (hr : S.rs[m]? = some r) (x : Int) : MadeI w (w.setCell ⟨rb, m * 2 + 1, none⟩ (I x)) base b pv { S with rs := S.rs.set m ⟨r.fst, x⟩ } := by
  have h0 : MadeP w w base b 3 pv S := ⟨Below.refl _ _, RelF.refl _ _, h.sm⟩
  have h1 := h0.setNext hv hr x (h0.regs_apart hv)
  obtain ⟨V, hS, hi⟩ := h
  refine ⟨h1.below, h1.rel, V, (hS.setNext (hi.e1.trans hv) hr x).ghost rfl rfl rfl rfl rfl rfl, ⟨hi.gas, hi.es, hi.ov, hi.iw, hi.e1, hi.e2, hi.e3, hi.e4, hi.e5⟩⟩
end
end Go.Proofs.Ytlafiddfplhafaa
/- forge.Net: the smith ahead of its inputs, and while an input is laid. -/
namespace Go.Proofs.Ytlafiddfplhafaa
set_option linter.unusedVariables false
set_option linter.unusedSimpArgs false
open Go.RowKit
/-- The smith while nothing but inputs and stores are laid; all below base is as it was. -/
def InitB (wI : World) (base b : Nat) (pv : Value) (S : SmithM) (w : World) : Prop := Below base wI w ∧ InitP w base b pv S
/-- Ahead of the gate, behind it, behind the append. -/
def AppI (wI : World) (base b : Nat) (pv : Value) (S S' : SmithM) (u : Value) : Nat → World → Prop
  | 0, w => InitB wI base b pv S w
  | 1, w => InitB wI base b pv S' w
  | _ + 2, w => ∃ wp, InitB wI base b pv S' wp ∧ wp.grownBy w u.ownBlock
section
variable {wI w w' : World} {base b : Nat} {pv : Value} {S S' : SmithM} {u : Value} {k : Nat}
theorem below_ext {B : Nat} {a w w' : World} (h : Below B a w) (hB : B ≤ w.heap.size) (hx : Ext w w') : Below B a w' :=
  Below.grown (row := none) h ⟨hx.os, hx.tape, hx.output, hx.size, fun i hi _ => hx.block i hi⟩ hB (fun k e => by cases e)
theorem InitP.size (h : InitP w base b pv S) : base ≤ w.heap.size ∧ b < w.heap.size := let ⟨_, h1, _⟩ := h; h1.size
theorem InitB.ext (h : InitB wI base b pv S w) (hx : Ext w w') : InitB wI base b pv S w' ∧ RelF b w w' := ⟨⟨below_ext h.1 h.2.size.1 hx, (h.2.ext hx).1⟩, (h.2.ext hx).2⟩
theorem InitB.made (h : InitB wI base b pv S w) (k : MadeI w w' base b pv S') : InitB wI base b pv S' w' := ⟨h.1.trans k.below, k.sm⟩
theorem InitP.ins (h : InitP w base b pv S) : w.ownsRow base 3 1 S.iv S.ins.length (S.ins.map I) := let ⟨V, h1, h2⟩ := h; by rw [← h2.e2]; exact h1.ins
theorem InitP.regs (h : InitP w base b pv S) : w.ownsRow base 79 2 S.rv S.rs.length (storeCs S.rs) := let ⟨V, h1, h2⟩ := h; by rw [← h2.e1]; exact h1.regs
theorem InitP.was (h : InitP w base b pv S) : w.ownsRow base 3 1 S.wv S.was.length (S.was.map I) := let ⟨V, h1, h2⟩ := h; by rw [← h2.e3]; exact h1.was
theorem InitP.cellR (h : InitP w base b pv S) : w.cell? ⟨b, 2, none⟩ = some S.rv := let ⟨V, h1, h2⟩ := h; by rw [← h2.e1]; exact h1.box.cell 2
theorem InitP.cellW (h : InitP w base b pv S) : w.cell? ⟨b, 6, none⟩ = some S.wv := let ⟨V, h1, h2⟩ := h; by rw [← h2.e3]; exact h1.box.cell 6
/-- The boxes of the smith, and the rows that it may write, at each stage. -/
theorem AppI.boxes (h : AppI wI base b pv S S' u k w) (hu : ∀ wp, InitB wI base b pv S' wp → wp.ownsRow base 3 1 u S'.ins.length (S'.ins.map I)) :
    ∃ V : SmithV, Box w b 74 (V.cells 3 pv) ∧ Box w V.eb 23 V.es ∧ (∀ k, FootW b w k → k < w.heap.size) ∧ (k = 0 → V.iv = S.iv) ∧ (k ≠ 0 → V.iv = S'.iv) := by
  rcases k with _ | _ | k
  · obtain ⟨-, V, h1, h2⟩ := h
    exact ⟨V, h1.box, h1.ebox, fun k hk => (h1.foot_lt hk).2, fun _ => h2.e2, fun e => absurd rfl e⟩
  · obtain ⟨-, V, h1, h2⟩ := h
    exact ⟨V, h1.box, h1.ebox, fun k hk => (h1.foot_lt hk).2, fun e => absurd e (by omega), fun _ => h2.e2⟩
  · obtain ⟨wp, hb, hg⟩ := h
    have ho := hu wp hb
    obtain ⟨-, V, h1, h2⟩ := hb
    exact ⟨V, h1.box.kept hg (h1.box.apart ho (by decide)), h1.ebox.kept hg (h1.ebox.apart ho (by decide)), fun k hk => Nat.lt_of_lt_of_le (h1.foot_lt ((h1.foot_grown ho hg k).1 hk)).2 hg.size, fun e => absurd e (by omega), fun _ => h2.e2⟩
theorem rel_boxes {V : SmithV} {i0 : Int} (h1 : Box w b 74 (V.cells i0 pv)) (h2 : Box w V.eb 23 V.es) (hx : Ext w w') : RelF b w w' :=
  ⟨hx.size, fun k hk hf => ⟨hx.block k hk, fun e => hf ((foot_of h1 h2 k).2 ((foot_of (h1.ext hx) (h2.ext hx) k).1 e))⟩⟩
theorem AppI.ext (hu : ∀ wp, InitB wI base b pv S' wp → wp.ownsRow base 3 1 u S'.ins.length (S'.ins.map I)) (h : AppI wI base b pv S S' u k w) (hx : Ext w w') : AppI wI base b pv S S' u k w' ∧ RelF b w w' := by
  obtain ⟨V, b1, b2, -⟩ := h.boxes hu
  refine ⟨?_, rel_boxes b1 b2 hx⟩
  rcases k with _ | _ | k
  · exact (InitB.ext h hx).1
  · exact (InitB.ext h hx).1
  · obtain ⟨wp, hb, hg⟩ := h
    exact ⟨wp, hb, ⟨hx.os.trans hg.os, hx.tape.trans hg.tape, hx.output.trans hg.output, Nat.le_trans hg.size hx.size, fun i hi hne => (hx.block i (Nat.lt_of_lt_of_le hi hg.size)).trans (hg.block i hi hne)⟩⟩
theorem AppI.cell5 (hu : ∀ wp, InitB wI base b pv S' wp → wp.ownsRow base 3 1 u S'.ins.length (S'.ins.map I)) (h : AppI wI base b pv S S' u k w) (e : S'.iv = S.iv) : w.cell? ⟨b, 5, none⟩ = some S.iv := by
  obtain ⟨V, b1, -, -, e1, e2⟩ := h.boxes hu
  have := b1.cell 5
  simp only [List.getElem?_cons_zero, List.getElem?_cons_succ] at this
  rw [this]
  by_cases hk : k = 0
  · rw [e1 hk]
  · rw [e2 hk, e]
/-- A block that is new lies outside of what the smith may write. -/
theorem AppI.fresh (hu : ∀ wp, InitB wI base b pv S' wp → wp.ownsRow base 3 1 u S'.ins.length (S'.ins.map I)) (h : AppI wI base b pv S S' u k w) (hx : Ext w w') {g : Nat} (hg : w.heap.size ≤ g) : ¬ FootW b w' g := fun e => by
  obtain ⟨V, b1, b2, h3, -⟩ := h.boxes hu
  have := h3 g ((foot_of b1 b2 g).2 ((foot_of (b1.ext hx) (b2.ext hx) g).1 e))
  omega
/-- The append's result. -/
def GrownI (wI : World) (base b : Nat) (pv : Value) (S' : SmithM) (ln : Nat) (x : Int) (v : Value) (w : World) : Prop :=
  ∃ g6 cap6 wp, v = .slice (some ⟨g6, 0, none⟩) (ln + 1) cap6 ∧ InitB wI base b pv S' wp ∧ wp.grownBy w S'.iv.ownBlock ∧ w.ownsRow base 3 1 (.slice (some ⟨g6, 0, none⟩) (ln + 1) cap6) (ln + 1) (S'.ins.map I ++ [I x]) ∧ (S'.iv.ownBlock = some g6 ∨ wp.heap.size ≤ g6)
theorem GrownI.ext {ln : Nat} {x : Int} {v : Value} (h : GrownI wI base b pv S' ln x v w) (hx : Ext w w') : GrownI wI base b pv S' ln x v w' :=
  let ⟨g6, cap6, wp, h1, h2, h3, h4, h5⟩ := h
  ⟨g6, cap6, wp, h1, h2, ⟨hx.os.trans h3.os, hx.tape.trans h3.tape, hx.output.trans h3.output, Nat.le_trans h3.size hx.size, fun i hi hne => (hx.block i (Nat.lt_of_lt_of_le hi h3.size)).trans (h3.block i hi hne)⟩, own_ext h4 hx, h5⟩
end
/-- The smith's first inputs. -/
def sIn (k : Nat) (iv : Value) (eb : Nat) : SmithM := ⟨(List.range k).map gIn, [], [], (List.range k).map Int.ofNat, [], [[], [], []], .slice none 0 0, iv, .slice none 0 0, eb, [.slice none 0 0, .slice none 0 0, .slice none 0 0]⟩
theorem sIn_succ (k : Nat) (iv e' : Value) (eb : Nat) : { (sIn k iv eb).pushG (gIn k) with ins := ((sIn k iv eb).pushG (gIn k)).ins ++ [(k : Int)], iv := e' } = sIn (k + 1) e' eb := by
  simp [sIn, List.range_succ]
theorem sIn_len (k : Nat) (iv : Value) (eb : Nat) : (sIn k iv eb).gs.length = k ∧ (sIn k iv eb).ins.length = k := by simp [sIn]
/-- The smith behind k of the outputs' stores. -/
def sWa (k : Nat) (rv iv wv : Value) (eb : Nat) : SmithM := ⟨headG.take (5 + k), ⟨true, 4⟩ :: List.replicate k ⟨false, 0⟩, [], [0, 1, 2], (List.range k).map fun j => Int.ofNat j + 5, [[], [], []], rv, iv, wv, eb, [.slice none 0 0, .slice none 0 0, .slice none 0 0]⟩
theorem sWa_lt {k : Nat} (hk : k < 3) (rv iv wv rv' e' : Value) (eb : Nat) : { ((sWa k rv iv wv eb).pushR ⟨false, 0⟩ rv').pushG (gReg (k + 1)) with was := (((sWa k rv iv wv eb).pushR ⟨false, 0⟩ rv').pushG (gReg (k + 1))).was ++ [((5 + k : Nat) : Int)], wv := e' } = sWa (k + 1) rv' iv e' eb := by
  have : k = 0 ∨ k = 1 ∨ k = 2 := by omega
  rcases this with rfl | rfl | rfl <;> rfl
theorem sWa_len {k : Nat} (hk : k ≤ 3) (rv iv wv : Value) (eb : Nat) : (sWa k rv iv wv eb).gs.length = 5 + k ∧ (sWa k rv iv wv eb).rs.length = k + 1 ∧ (sWa k rv iv wv eb).was.length = k := by
  have : k = 0 ∨ k = 1 ∨ k = 2 ∨ k = 3 := by omega
  rcases this with rfl | rfl | rfl | rfl <;> exact ⟨rfl, rfl, rfl⟩
/-- A row that the smith does not know grows. -/
theorem InitP.other {w w' : World} {base b : Nat} {pv : Value} {S : SmithM} {row : Option Nat} (h : InitP w base b pv S) (hg : w.grownBy w' row) (hr : ∀ g, row = some g → ¬ FootW b w g) : InitP w' base b pv S ∧ ∀ k, FootW b w' k ↔ FootW b w k := by
  obtain ⟨V, hS, hi⟩ := h
  have hf := hS.foot
  have ne : ∀ {u : Value}, (∀ g, u.ownBlock = some g → FootW b w g) → u.ownBlock = none ∨ u.ownBlock ≠ row := fun {u} hu => by
    cases e : u.ownBlock with
    | none => exact .inl rfl
    | some g => exact .inr (fun q => hr g q.symm (hu g e))
  have kb := hS.box.kept hg (fun q => hr b q ((hf b).2 (.inl rfl)))
  have ke := hS.ebox.kept hg (fun q => hr V.eb q ((hf V.eb).2 (by simp)))
  refine ⟨⟨V, ⟨kb, hS.gates.kept hg (ne fun g e => (hf g).2 (.inr (.inl e))) (fun v hv => .inl (hi.gas v hv)), hS.regs.kept hg (ne fun g e => (hf g).2 (.inr (.inr (.inl e)))), hS.outs.kept hg (.inl hi.ov), hS.ins.kept hg (ne fun g e => (hf g).2 (.inr (.inr (.inr (.inr (.inl e)))))), hS.was.kept hg (ne fun g e => (hf g).2 (.inr (.inr (.inr (.inr (.inr (.inl e))))))), ke, hS.el, fun i v r hv hr2 => (hS.em i v r hv hr2).kept hg (.inl (hi.es v (List.mem_of_getElem? hv))), hS.ge⟩, hi⟩, fun k => (foot_of kb ke k).trans (hf k).symm⟩
/-- The smith as it begins. -/
theorem InitB.begin (w : World) (base : Nat) (hb : base ≤ w.heap.size) (pv : Value) {w' : World} (h1 : Box w' w.heap.size 23 [.slice none 0 0, .slice none 0 0, .slice none 0 0]) (h2 : Box w' (w.heap.size + 1) 74 [I 3, .slice none 0 0, .slice none 0 0, .slice none 0 0, pv, .slice none 0 0, .slice none 0 0, .slice (some ⟨w.heap.size, 0, none⟩) 3 3]) (hB : Below base w w') :
    InitB w base (w.heap.size + 1) pv (sIn 0 (.slice none 0 0) w.heap.size) w' := by
  refine ⟨hB, ⟨.slice none 0 0, .slice none 0 0, .slice none 0 0, .slice none 0 0, .slice none 0 0, w.heap.size, [], [.slice none 0 0, .slice none 0 0, .slice none 0 0]⟩, ⟨h2, RowG.nil _ _, World.ownsRow_nil _ _ _ _, World.ownsRow_nil _ _ _ _, World.ownsRow_nil _ _ _ _, World.ownsRow_nil _ _ _ _, h1, ⟨rfl, rfl⟩, fun i v r hv hr => ?_, ⟨by omega, hb⟩⟩, ⟨fun u hu => by simp at hu, fun u hu => by simp at hu; subst hu; rfl, rfl, fun g e => by simp [Value.ownBlock] at e, rfl, rfl, rfl, rfl, rfl⟩⟩
  rcases i with _ | _ | _ | i
  all_goals simp [sIn] at hv hr
  all_goals (subst hv; subst hr; exact World.ownsRow_nil _ _ _ _)
end Go.Proofs.Ytlafiddfplhafaa
