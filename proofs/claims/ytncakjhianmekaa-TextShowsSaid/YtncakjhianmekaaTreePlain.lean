/- Programs as trees, and one instant of them, in plain Lean. No Go in sight. -/
import Derived.Test.YtncakjhianmekaaPgPlain
namespace Go.Proofs.Ytncakjhianmekaa
set_option linter.unusedVariables false
set_option linter.unusedSimpArgs false

inductive Tr
  | leaf (x : PNode)
  | two (x : PNode) (a b : Tr)
def Tr.flat : Tr → List PNode
  | .leaf x => [x]
  | .two x a b => x :: (a.flat ++ b.flat)
def Tr.size : Tr → Nat
  | .leaf _ => 1
  | .two _ a b => 1 + a.size + b.size
def Tr.ok : Tr → Prop
  | .leaf x => Go.Proofs.Ytncakjhianmekaa.two x.kind = false
  | .two x a b => Go.Proofs.Ytncakjhianmekaa.two x.kind = true ∧ a.ok ∧ b.ok
def Tr.top : Tr → PNode
  | .leaf x => x
  | .two x _ _ => x
/-- Kinds and signs are right. -/
def goodN (x : PNode) : Prop := badKind x = false ∧ badSig x = false
theorem flat_size : ∀ t : Tr, t.flat.length = t.size
  | .leaf _ => rfl
  | .two _ a b => by simp [Tr.flat, Tr.size, flat_size a, flat_size b]; omega
theorem size_pos : ∀ t : Tr, 0 < t.size
  | .leaf _ => by simp [Tr.size]
  | .two _ a b => by simp [Tr.size]; omega
theorem skip_flat : ∀ (t : Tr) (r : List PNode), t.ok → skipN 1 (t.flat ++ r) = some r
  | .leaf x, r, h => skip_one x r h
  | .two x a b, r, h => by
    obtain ⟨h1, h2, h3⟩ := h
    simp only [Tr.flat, List.cons_append, List.append_assoc]
    rw [skip_two _ _ h1, skip_flat a _ h2, Option.bind_some, skip_flat b _ h3]
theorem skip_trees (l : List PNode) : ∀ (n : Nat) (r : List PNode), skipN n l = some r → ∃ ts : List Tr, ts.length = n ∧ (∀ t ∈ ts, t.ok) ∧ l = ts.flatMap Tr.flat ++ r := by
  induction l with
  | nil =>
    intro n r h
    cases n with
    | zero => simp [skipN] at h; exact ⟨[], rfl, by simp, by simp [h]⟩
    | succ n => simp [skipN] at h
  | cons x l ih =>
    intro n r h
    cases n with
    | zero => simp [skipN] at h; exact ⟨[], rfl, by simp, by simp [h]⟩
    | succ n =>
      simp only [skipN] at h
      cases ht : two x.kind with
      | true =>
        rw [ht, if_pos rfl] at h
        obtain ⟨ts, h1, h2, h3⟩ := ih _ _ h
        match ts, h1, h2, h3 with
        | a :: b :: ts, h1, h2, h3 =>
          refine ⟨.two x a b :: ts, by simpa using h1, fun t ht' => ?_, by simp [h3, Tr.flat]⟩
          rcases List.mem_cons.1 ht' with e | e
          · subst e; exact ⟨ht, h2 a (by simp), h2 b (by simp)⟩
          · exact h2 t (by simp [e])
      | false =>
        rw [ht, if_neg (by simp)] at h
        obtain ⟨ts, h1, h2, h3⟩ := ih _ _ h
        refine ⟨.leaf x :: ts, by simp [h1], fun t ht' => ?_, by simp [h3, Tr.flat]⟩
        rcases List.mem_cons.1 ht' with e | e
        · subst e; exact ht
        · exact h2 t e
theorem check_tree {p : List PNode} (h : checkP p = 0) : ∃ t : Tr, t.ok ∧ p = t.flat ∧ t.size ≤ 14 ∧ ∀ x ∈ t.flat, goodN x := by
  obtain ⟨h1, h2, h3, h4⟩ := checkP_ok h
  obtain ⟨ts, e1, e2, e3⟩ := skip_trees p 1 [] h4
  match ts, e1, e2, e3 with
  | [t], _, e2, e3 =>
    have e : p = t.flat := by simpa using e3
    refine ⟨t, e2 t (by simp), e, by rw [← flat_size, ← e]; exact h1, fun x hx => ?_⟩
    rw [← e] at hx
    exact ⟨by have := List.any_eq_false.1 h2 x hx; simpa using this, by have := List.any_eq_false.1 h3 x hx; simpa using this⟩
theorem tree_check {t : Tr} (ok : t.ok) (hs : t.size ≤ 14) (hg : ∀ x ∈ t.flat, goodN x) : checkP t.flat = 0 := by
  have h1 : ¬ 14 < t.flat.length := by rw [flat_size]; omega
  have h2 : t.flat.any badKind = false := List.any_eq_false.2 fun x hx => by simp [(hg x hx).1]
  have h3 : t.flat.any badSig = false := List.any_eq_false.2 fun x hx => by simp [(hg x hx).2]
  have h4 : oneM t.flat 0 = t.flat.length := by rw [skip_all]; simpa using skip_flat t [] ok
  simp [checkP, h1, h2, h3, h4]
/-- A tree that stands at a place of a list of nodes. -/
def TreeAt (p : List PNode) (k : Nat) (t : Tr) : Prop := ∃ r, p.drop k = t.flat ++ r
theorem TreeAt.root (t : Tr) : TreeAt t.flat 0 t := ⟨[], by simp⟩
theorem TreeAt.top {p : List PNode} {k : Nat} {t : Tr} (h : TreeAt p k t) : p[k]? = some t.top := by
  obtain ⟨r, h⟩ := h
  have : (p.drop k)[0]? = some t.top := by rw [h]; cases t <;> simp [Tr.flat, Tr.top]
  simpa using this
theorem TreeAt.le {p : List PNode} {k : Nat} {t : Tr} (h : TreeAt p k t) : k + t.size ≤ p.length := by
  obtain ⟨r, h⟩ := h
  have := congrArg List.length h
  have h2 := size_pos t
  simp [flat_size] at this; omega
theorem TreeAt.first {p : List PNode} {k : Nat} {x : PNode} {a b : Tr} (h : TreeAt p k (.two x a b)) : TreeAt p (k + 1) a := by
  obtain ⟨r, h⟩ := h
  refine ⟨b.flat ++ r, ?_⟩
  rw [← List.drop_drop, h]; simp [Tr.flat]
theorem TreeAt.second {p : List PNode} {k : Nat} {x : PNode} {a b : Tr} (h : TreeAt p k (.two x a b)) : TreeAt p (k + 1 + a.size) b := by
  obtain ⟨r, h⟩ := h
  refine ⟨r, ?_⟩
  rw [← List.drop_drop, ← List.drop_drop, h]; simp [Tr.flat, ← flat_size]
theorem TreeAt.one {p : List PNode} {k : Nat} {t : Tr} (h : TreeAt p k t) (ok : t.ok) : oneM p k = k + t.size := by
  have hl := h.le
  obtain ⟨r, h⟩ := h
  have h0 : ¬ (k : Int) < 0 := by omega
  simp only [oneM, h0, if_false, Int.toNat_natCast, h, skip_flat t r ok]
  have := congrArg List.length h
  have h2 := size_pos t
  simp [flat_size] at this; omega
theorem TreeAt.of_leaf {p : List PNode} {k : Nat} {x : PNode} (h : TreeAt p k (.leaf x)) (ok : (Tr.leaf x).ok) : ofP p k = (0, 0, (k : Int) + 1) := by
  have h1 := h.top; have h2 := h.one ok
  have ok' : Go.Proofs.Ytncakjhianmekaa.two x.kind = false := ok
  simp only [Tr.top] at h1
  simp only [ofP, h1, ok', h2, Tr.size]; simp
theorem TreeAt.of_two {p : List PNode} {k : Nat} {x : PNode} {a b : Tr} (h : TreeAt p k (.two x a b)) (ok : (Tr.two x a b).ok) : ofP p k = ((k : Int) + 1, (k : Int) + 1 + a.size, (k : Int) + (Tr.two x a b).size) := by
  have h1 := h.top; have h2 := h.one ok
  obtain ⟨o1, o2, o3⟩ := ok
  have h3 := h.first.one o2
  simp only [Tr.top] at h1
  rw [show ((k + 1 : Nat) : Int) = (k : Int) + 1 from by omega] at h3
  simp only [ofP, h1, o1, h2, h3]; simp

theorem good_leaf' {x : PNode} (hk : two x.kind = false) (hg : goodN x) : x.kind = 0 ∨ x.kind = 1 ∨ x.kind = 2 ∨ x.kind = 3 ∨ x.kind = 4 := by
  have h1 := hg.1
  simp [badKind] at h1; simp [two] at hk; omega
theorem good_two' {x : PNode} (hk : two x.kind = true) (hg : goodN x) : x.kind = 5 ∨ x.kind = 6 ∨ x.kind = 7 ∨ x.kind = 8 := by
  have h1 := hg.1
  simp [badKind] at h1; simp [two] at hk; omega

theorem leaf_sig' {x : PNode} (hg : goodN x) : 0 ≤ x.sig ∧ x.sig ≤ 2 := by
  have := hg.2
  simp only [badSig, Bool.or_eq_false_iff, decide_eq_false_iff_not, signsM] at this
  obtain ⟨h1, h2⟩ := this
  split at h2
  · simp at h2; omega
  · split at h2 <;> simp at h2 <;> omega

/-! one instant -/
structure StM where
  W : List Bool
  O : List Bool
def waitSt (s : StM) (k : Nat) : StM := ⟨s.W.set k true, s.O⟩
def emitSt (s : StM) (g : Int) : StM := ⟨s.W, s.O.set g.toNat true⟩
def choiceM (th wa : Int → Bool) (x : PNode) : Bool := if x.kind = 7 then th x.sig else wa x.sig
def beginT (th wa : Int → Bool) : Tr → Nat → StM → Bool × StM
  | .leaf x, k, s => if x.kind = 3 then (true, emitSt s x.sig) else if x.kind = 0 then (true, s) else (false, waitSt s k)
  | .two x a b, k, s =>
    if x.kind = 5 then
      if (beginT th wa a (k + 1) s).1 then beginT th wa b (k + 1 + a.size) (beginT th wa a (k + 1) s).2 else (false, (beginT th wa a (k + 1) s).2)
    else if x.kind = 6 then
      ((beginT th wa a (k + 1) s).1 && (beginT th wa b (k + 1 + a.size) (beginT th wa a (k + 1) s).2).1, (beginT th wa b (k + 1 + a.size) (beginT th wa a (k + 1) s).2).2)
    else if choiceM th wa x then beginT th wa a (k + 1) s else beginT th wa b (k + 1 + a.size) s
def someT (V : List Bool) (t : Tr) (k : Nat) : Bool := ((V.drop k).take t.size).contains true
def onT (th wa : Int → Bool) (V : List Bool) : Tr → Nat → StM → Bool × StM
  | .leaf x, k, s => if x.kind = 1 then (true, s) else if x.kind = 2 then (false, waitSt s k) else if th x.sig then (true, s) else (false, waitSt s k)
  | .two x a b, k, s =>
    if x.kind = 5 then
      if someT V a (k + 1) then
        if (onT th wa V a (k + 1) s).1 then beginT th wa b (k + 1 + a.size) (onT th wa V a (k + 1) s).2 else (false, (onT th wa V a (k + 1) s).2)
      else onT th wa V b (k + 1 + a.size) s
    else
      if someT V a (k + 1) then
        if someT V b (k + 1 + a.size) then
          ((onT th wa V a (k + 1) s).1 && (onT th wa V b (k + 1 + a.size) (onT th wa V a (k + 1) s).2).1, (onT th wa V b (k + 1 + a.size) (onT th wa V a (k + 1) s).2).2)
        else onT th wa V a (k + 1) s
      else if someT V b (k + 1 + a.size) then onT th wa V b (k + 1 + a.size) s
      else (true, s)
structure RestM where
  fresh : Bool
  waits : List Bool
  outs : List Bool
  deriving DecidableEq
def freshM (n : Nat) : RestM := ⟨true, List.replicate n false, [false, false, false]⟩
def thereM (ins : Int) (g : Int) : Bool := decide (ins / 2 ^ g.toNat % 2 = 1)
def wasM (O : List Bool) (g : Int) : Bool := O[g.toNat]?.getD false
def turnM (t : Tr) (r : RestM) (ins : Int) : Bool × StM :=
  if r.fresh then beginT (thereM ins) (wasM r.outs) t 0 ⟨List.replicate t.size false, [false, false, false]⟩
  else if someT r.waits t 0 then onT (thereM ins) (wasM r.outs) r.waits t 0 ⟨List.replicate t.size false, [false, false, false]⟩
  else (false, ⟨List.replicate t.size false, [false, false, false]⟩)
def turnR (t : Tr) (r : RestM) (ins : Int) : RestM := ⟨false, (turnM t r ins).2.W, (turnM t r ins).2.O⟩
def checkR (p : List PNode) (r : RestM) : Int :=
  if checkP p ≠ 0 then checkP p else if r.waits.length ≠ p.length ∨ r.outs.length ≠ 3 then 1
  else if (r.waits.zip p).any (fun y => y.1 && (r.fresh || !waitK y.2.kind)) then 1 else 0

/-! lengths, and what is written -/
theorem waitSt_len (s : StM) (k : Nat) : (waitSt s k).W.length = s.W.length ∧ (waitSt s k).O.length = s.O.length := by simp [waitSt]
theorem emitSt_len (s : StM) (g : Int) : (emitSt s g).W.length = s.W.length ∧ (emitSt s g).O.length = s.O.length := by simp [emitSt]
theorem beginT_len (th wa : Int → Bool) : ∀ (t : Tr) (k : Nat) (s : StM), (beginT th wa t k s).2.W.length = s.W.length ∧ (beginT th wa t k s).2.O.length = s.O.length
  | .leaf x, k, s => by
    simp only [beginT]; split
    · exact emitSt_len s _
    split
    · exact ⟨rfl, rfl⟩
    · exact waitSt_len s _
  | .two x a b, k, s => by
    have h1 := beginT_len th wa a (k + 1) s
    have h2 := beginT_len th wa b (k + 1 + a.size) (beginT th wa a (k + 1) s).2
    have h3 := beginT_len th wa b (k + 1 + a.size) s
    simp only [beginT]
    split
    · split
      · exact ⟨h2.1.trans h1.1, h2.2.trans h1.2⟩
      · exact h1
    split
    · exact ⟨h2.1.trans h1.1, h2.2.trans h1.2⟩
    · split
      · exact h1
      · exact h3
theorem onT_len (th wa : Int → Bool) (V : List Bool) : ∀ (t : Tr) (k : Nat) (s : StM), (onT th wa V t k s).2.W.length = s.W.length ∧ (onT th wa V t k s).2.O.length = s.O.length
  | .leaf x, k, s => by
    simp only [onT]; split
    · exact ⟨rfl, rfl⟩
    split
    · exact waitSt_len s _
    split
    · exact ⟨rfl, rfl⟩
    · exact waitSt_len s _
  | .two x a b, k, s => by
    have h1 := onT_len th wa V a (k + 1) s
    have h2 := onT_len th wa V b (k + 1 + a.size) (onT th wa V a (k + 1) s).2
    have h3 := onT_len th wa V b (k + 1 + a.size) s
    have h4 := beginT_len th wa b (k + 1 + a.size) (onT th wa V a (k + 1) s).2
    simp only [onT]
    split
    · split
      · split
        · exact ⟨h4.1.trans h1.1, h4.2.trans h1.2⟩
        · exact h1
      · exact h3
    · split
      · split
        · exact ⟨h2.1.trans h1.1, h2.2.trans h1.2⟩
        · exact h1
      · split
        · exact h3
        · exact ⟨rfl, rfl⟩
/-- Only places of a tree that may wait are written. -/
structure WritesW (t : Tr) (k : Nat) (s s' : StM) : Prop where
  at_ : ∀ j : Nat, s'.W[j]?.getD false = true → s.W[j]?.getD false = true ∨ (k ≤ j ∧ ∃ x, t.flat[j - k]? = some x ∧ waitK x.kind = true)
  keep : ∀ j : Nat, s.W[j]?.getD false = true → s'.W[j]?.getD false = true
theorem WritesW.refl (t : Tr) (k : Nat) (s : StM) : WritesW t k s s := ⟨fun j h => .inl h, fun j h => h⟩
theorem WritesW.same {t : Tr} {k : Nat} {s s' : StM} (h : s'.W = s.W) : WritesW t k s s' := ⟨fun j e => .inl (by rwa [h] at e), fun j e => by rwa [h]⟩
theorem WritesW.wait {x : PNode} {k : Nat} (s : StM) (hx : waitK x.kind = true) : WritesW (.leaf x) k s (waitSt s k) := by
  constructor
  · intro j h
    by_cases e : j = k
    · exact .inr ⟨by omega, x, by rw [e]; simp [Tr.flat], hx⟩
    · left; simp only [waitSt, List.getElem?_set] at h; rwa [if_neg (fun q => e q.symm)] at h
  · intro j h
    simp only [waitSt, List.getElem?_set]
    by_cases e : k = j
    · subst e; rw [if_pos rfl]; split
      · rfl
      · rename_i h2; rw [List.getElem?_eq_none (by omega)] at h; cases h
    · rwa [if_neg e]
theorem WritesW.trans {t : Tr} {k : Nat} {s s' s'' : StM} (h : WritesW t k s s') (g : WritesW t k s' s'') : WritesW t k s s'' :=
  ⟨fun j e => by
    rcases g.at_ j e with h1 | h1
    · exact h.at_ j h1
    · exact .inr h1, fun j e => g.keep j (h.keep j e)⟩
theorem WritesW.first {x : PNode} {a b : Tr} {k : Nat} {s s' : StM} (h : WritesW a (k + 1) s s') : WritesW (.two x a b) k s s' :=
  ⟨fun j e => by
    rcases h.at_ j e with h1 | ⟨h1, y, h2, h3⟩
    · exact .inl h1
    · refine .inr ⟨by omega, y, ?_, h3⟩
      rw [show j - k = (j - (k + 1)) + 1 from by omega]
      have := (List.getElem?_eq_some_iff.1 h2).1
      simp only [Tr.flat, List.getElem?_cons_succ, List.getElem?_append_left this]; exact h2, h.keep⟩
theorem WritesW.second {x : PNode} {a b : Tr} {k : Nat} {s s' : StM} (h : WritesW b (k + 1 + a.size) s s') : WritesW (.two x a b) k s s' :=
  ⟨fun j e => by
    rcases h.at_ j e with h1 | ⟨h1, y, h2, h3⟩
    · exact .inl h1
    · refine .inr ⟨by omega, y, ?_, h3⟩
      rw [show j - k = (a.size + (j - (k + 1 + a.size))) + 1 from by omega]
      simp only [Tr.flat, List.getElem?_cons_succ]
      rw [List.getElem?_append_right (by rw [flat_size]; omega), flat_size, Nat.add_sub_cancel_left]; exact h2, h.keep⟩
theorem wait_kind {x : PNode} (ok : two x.kind = false) (hg : goodN x) (h3 : ¬ x.kind = 3) (h0 : ¬ x.kind = 0) : waitK x.kind = true := by
  have := hg.1
  simp [badKind] at this; simp [two] at ok; simp [waitK]; omega
theorem sub_good {x : PNode} {a b : Tr} (hg : ∀ y ∈ (Tr.two x a b).flat, goodN y) : (∀ y ∈ a.flat, goodN y) ∧ (∀ y ∈ b.flat, goodN y) :=
  ⟨fun y hy => hg y (by simp [Tr.flat, hy]), fun y hy => hg y (by simp [Tr.flat, hy])⟩
theorem begin_writes (th wa : Int → Bool) : ∀ (t : Tr) (k : Nat) (s : StM), t.ok → (∀ x ∈ t.flat, goodN x) → WritesW t k s (beginT th wa t k s).2
  | .leaf x, k, s, ok, hg => by
    simp only [beginT]; split
    · exact .same rfl
    split
    · exact .refl _ _ _
    · exact .wait s (wait_kind ok (hg x (by simp [Tr.flat])) ‹_› ‹_›)
  | .two x a b, k, s, ok, hg => by
    have hgs := sub_good hg
    have h1 := (begin_writes th wa a (k + 1) s ok.2.1 hgs.1).first (x := x) (b := b)
    have h2 := (begin_writes th wa b (k + 1 + a.size) (beginT th wa a (k + 1) s).2 ok.2.2 hgs.2).second (x := x)
    have h3 := (begin_writes th wa b (k + 1 + a.size) s ok.2.2 hgs.2).second (x := x)
    simp only [beginT]
    split
    · split
      · exact h1.trans h2
      · exact h1
    split
    · exact h1.trans h2
    · split
      · exact h1
      · exact h3
/-- Where some wait in a leaf, it may wait. -/
def waitsOK (p : List PNode) (V : List Bool) : Prop := ∀ j : Nat, V[j]?.getD false = true → ∃ x, p[j]? = some x ∧ waitK x.kind = true
theorem some_leaf {V : List Bool} {x : PNode} {k : Nat} (h : someT V (.leaf x) k = true) : V[k]?.getD false = true := by
  simp only [someT, Tr.size, List.contains_eq_mem, decide_eq_true_eq] at h
  obtain ⟨i, hi⟩ := List.mem_iff_getElem?.1 h
  have h2 := (List.getElem?_eq_some_iff.1 hi).1
  rw [List.getElem?_take] at hi
  split at hi
  · rw [List.getElem?_drop] at hi
    have : i = 0 := by omega
    subst this; simp at hi; simp [hi]
  · cases hi
theorem some_two {p : List PNode} {V : List Bool} (hV : waitsOK p V) {x : PNode} {a b : Tr} {k : Nat} (ht : TreeAt p k (.two x a b)) (ok : (Tr.two x a b).ok) (h : someT V (.two x a b) k = true) :
    someT V a (k + 1) = true ∨ someT V b (k + 1 + a.size) = true := by
  have hx : waitK x.kind = false := by have := ok.1; simp [two] at this; simp [waitK]; omega
  simp only [someT, Tr.size, List.contains_eq_mem, decide_eq_true_eq] at h ⊢
  obtain ⟨i, hi⟩ := List.mem_iff_getElem?.1 h
  rw [List.getElem?_take] at hi
  split at hi
  · rename_i hlt
    rw [List.getElem?_drop] at hi
    rcases Nat.lt_or_ge i 1 with e | e
    · have : i = 0 := by omega
      subst this
      obtain ⟨y, g1, g2⟩ := hV k (by simp at hi; simp [hi])
      have := ht.top; rw [g1] at this; injection this with this; rw [this] at g2
      simp only [Tr.top] at g2; rw [hx] at g2; cases g2
    · rcases Nat.lt_or_ge i (1 + a.size) with e2 | e2
      · left; refine List.mem_iff_getElem?.2 ⟨i - 1, ?_⟩
        rw [List.getElem?_take, if_pos (by omega), List.getElem?_drop, show k + 1 + (i - 1) = k + i from by omega]; exact hi
      · right; refine List.mem_iff_getElem?.2 ⟨i - 1 - a.size, ?_⟩
        rw [List.getElem?_take, if_pos (by omega), List.getElem?_drop, show k + 1 + a.size + (i - 1 - a.size) = k + i from by omega]; exact hi
  · cases hi
theorem on_writes (th wa : Int → Bool) {p : List PNode} {V : List Bool} (hV : waitsOK p V) : ∀ (t : Tr) (k : Nat) (s : StM), TreeAt p k t → t.ok → (∀ x ∈ t.flat, goodN x) → someT V t k = true → WritesW t k s (onT th wa V t k s).2
  | .leaf x, k, s, ht, ok, hg, hs => by
    have hw : waitK x.kind = true := by
      obtain ⟨y, h1, h2⟩ := hV k (some_leaf hs)
      have := ht.top; rw [h1] at this; injection this with this; rw [this] at h2; exact h2
    simp only [onT]; split
    · exact .refl _ _ _
    split
    · exact .wait s hw
    split
    · exact .refl _ _ _
    · exact .wait s hw
  | .two x a b, k, s, ht, ok, hg, hs => by
    have hgs := sub_good hg
    have h4 := (begin_writes th wa b (k + 1 + a.size) (onT th wa V a (k + 1) s).2 ok.2.2 hgs.2).second (x := x)
    have h1 := fun h => (on_writes th wa hV a (k + 1) s ht.first ok.2.1 hgs.1 h).first (x := x) (b := b)
    have h2 := fun h => (on_writes th wa hV b (k + 1 + a.size) (onT th wa V a (k + 1) s).2 ht.second ok.2.2 hgs.2 h).second (x := x)
    have h3 := fun h => (on_writes th wa hV b (k + 1 + a.size) s ht.second ok.2.2 hgs.2 h).second (x := x)
    have hsplit : someT V (.two x a b) k = true → waitK x.kind = false → someT V a (k + 1) = true ∨ someT V b (k + 1 + a.size) = true := by
      intro h hx
      simp only [someT, Tr.size, List.contains_eq_mem, decide_eq_true_eq] at h ⊢
      obtain ⟨i, hi⟩ := List.mem_iff_getElem?.1 h
      rw [List.getElem?_take] at hi
      split at hi
      · rename_i hlt
        rw [List.getElem?_drop] at hi
        rcases Nat.lt_or_ge i 1 with e | e
        · have : i = 0 := by omega
          subst this
          obtain ⟨y, g1, g2⟩ := hV k (by simp at hi; simp [hi])
          have := ht.top; rw [g1] at this; injection this with this; rw [this] at g2
          simp only [Tr.top] at g2; rw [hx] at g2; cases g2
        · rcases Nat.lt_or_ge i (1 + a.size) with e2 | e2
          · left; refine List.mem_iff_getElem?.2 ⟨i - 1, ?_⟩
            rw [List.getElem?_take, if_pos (by omega), List.getElem?_drop, show k + 1 + (i - 1) = k + i from by omega]; exact hi
          · right; refine List.mem_iff_getElem?.2 ⟨i - 1 - a.size, ?_⟩
            rw [List.getElem?_take, if_pos (by omega), List.getElem?_drop, show k + 1 + a.size + (i - 1 - a.size) = k + i from by omega]; exact hi
      · cases hi
    have hx : waitK x.kind = false := by have := ok.1; simp [two] at this; simp [waitK]; omega
    have hor := hsplit hs hx
    simp only [onT]
    split
    · split
      · split
        · exact (h1 ‹_›).trans h4
        · exact h1 ‹_›
      · rename_i hn
        rcases hor with e | e
        · exact absurd e hn
        · exact h3 e
    · split
      · split
        · exact (h1 ‹_›).trans (h2 ‹_›)
        · exact h1 ‹_›
      · split
        · exact h3 ‹_›
        · exact .refl _ _ _
/-- Who is over waits nowhere. -/
theorem begin_over (th wa : Int → Bool) : ∀ (t : Tr) (k : Nat) (s : StM), (beginT th wa t k s).1 = true → (beginT th wa t k s).2.W = s.W
  | .leaf x, k, s, h => by
    simp only [beginT] at h ⊢; split
    · rfl
    · rename_i h3
      rw [if_neg h3] at h
      split
      · rfl
      · rename_i h0; rw [if_neg h0] at h; cases h
  | .two x a b, k, s, h => by
    have h1 := begin_over th wa a (k + 1) s
    have h2 := begin_over th wa b (k + 1 + a.size) (beginT th wa a (k + 1) s).2
    have h3 := begin_over th wa b (k + 1 + a.size) s
    simp only [beginT] at h ⊢
    split
    · rename_i e; rw [if_pos e] at h
      split
      · rename_i e2; rw [if_pos e2] at h; rw [h2 h, h1 e2]
      · rename_i e2; rw [if_neg e2] at h; cases h
    · rename_i e; rw [if_neg e] at h
      split
      · rename_i e2; rw [if_pos e2] at h
        simp only [Bool.and_eq_true] at h
        rw [h2 h.2, h1 h.1]
      · rename_i e2; rw [if_neg e2] at h
        split
        · rename_i e3; rw [if_pos e3] at h; exact h1 h
        · rename_i e3; rw [if_neg e3] at h; exact h3 h
theorem on_over (th wa : Int → Bool) (V : List Bool) : ∀ (t : Tr) (k : Nat) (s : StM), (onT th wa V t k s).1 = true → (onT th wa V t k s).2.W = s.W
  | .leaf x, k, s, h => by
    simp only [onT] at h ⊢; split
    · rfl
    · rename_i h3
      rw [if_neg h3] at h
      split
      · rename_i h0; rw [if_pos h0] at h; cases h
      · rename_i h0; rw [if_neg h0] at h
        split
        · rfl
        · rename_i h4; rw [if_neg h4] at h; cases h
  | .two x a b, k, s, h => by
    have h1 := on_over th wa V a (k + 1) s
    have h2 := on_over th wa V b (k + 1 + a.size) (onT th wa V a (k + 1) s).2
    have h3 := on_over th wa V b (k + 1 + a.size) s
    have h4 := begin_over th wa b (k + 1 + a.size) (onT th wa V a (k + 1) s).2
    simp only [onT] at h ⊢
    split
    · rename_i e; rw [if_pos e] at h
      split
      · rename_i e2; rw [if_pos e2] at h
        split
        · rename_i e3; rw [if_pos e3] at h; rw [h4 h, h1 e3]
        · rename_i e3; rw [if_neg e3] at h; cases h
      · rename_i e2; rw [if_neg e2] at h; exact h3 h
    · rename_i e; rw [if_neg e] at h
      split
      · rename_i e2; rw [if_pos e2] at h
        split
        · rename_i e3; rw [if_pos e3] at h
          simp only [Bool.and_eq_true] at h
          rw [h2 h.2, h1 h.1]
        · rename_i e3; rw [if_neg e3] at h; exact h1 h
      · rename_i e2; rw [if_neg e2] at h
        split
        · rename_i e3; rw [if_pos e3] at h; exact h3 h
        · rfl
end Go.Proofs.Ytncakjhianmekaa
