/- Programs as trees, and one instant of them, in plain Lean. No Go in sight. -/
import Derived.Test.YtlafiddfplhafaaFc01
import Derived.Test.YtlafiddfplhafaaFc16
import Derived.Test.YtlafiddfplhafaaFc02
import Derived.Deep.RegionHeld3
import Derived.Deep.DrawnRows
import Derived.RegionTactic
import Derived.ChangeAlike
import Derived.StillTailTactics
namespace Go.Proofs.Ytlafiddfplhafaa
set_option linter.unusedVariables false
set_option linter.unusedSimpArgs false
set_option linter.unusedVariables false
set_option linter.unusedSimpArgs false
inductive Tr
  | leaf (x : PNode)
  | two (x : PNode) (a b : Tr)
def Tr.flat : Tr → List PNode
  | .leaf x => [x]
  | .two x a b => x :: (a.flat ++ b.flat)
def Tr.size : Tr → Nat
  | .leaf _ => 1
  | .two _ a b => 1 + a.size + b.size
def Tr.ok : Tr → Prop
  | .leaf x => Go.Proofs.Ytlafiddfplhafaa.two x.kind = false
  | .two x a b => Go.Proofs.Ytlafiddfplhafaa.two x.kind = true ∧ a.ok ∧ b.ok
def Tr.top : Tr → PNode
  | .leaf x => x
  | .two x _ _ => x
/-- Kinds and signs are right. -/
def goodN (x : PNode) : Prop := badKind x = false ∧ badSig x = false
theorem flat_size : ∀ t : Tr, t.flat.length = t.size
  | .leaf _ => rfl
  | .two _ a b => by simp [Tr.flat, Tr.size, flat_size a, flat_size b]; omega
theorem size_pos : ∀ t : Tr, 0 < t.size
  | .leaf _ => by simp [Tr.size]
  | .two _ a b => by simp [Tr.size]; omega
theorem skip_flat : ∀ (t : Tr) (r : List PNode), t.ok → skipN 1 (t.flat ++ r) = some r
  | .leaf x, r, h => skip_one x r h
  | .two x a b, r, h => by
    obtain ⟨h1, h2, h3⟩ := h
    simp only [Tr.flat, List.cons_append, List.append_assoc]
    rw [skip_two _ _ h1, skip_flat a _ h2, Option.bind_some, skip_flat b _ h3]
theorem skip_trees (l : List PNode) : ∀ (n : Nat) (r : List PNode), skipN n l = some r → ∃ ts : List Tr, ts.length = n ∧ (∀ t ∈ ts, t.ok) ∧ l = ts.flatMap Tr.flat ++ r := by
  induction l with
  | nil =>
    intro n r h
    cases n with
    | zero => simp [skipN] at h; exact ⟨[], rfl, by simp, by simp [h]⟩
    | succ n => simp [skipN] at h
  | cons x l ih =>
    intro n r h
    cases n with
    | zero => simp [skipN] at h; exact ⟨[], rfl, by simp, by simp [h]⟩
    | succ n =>
      simp only [skipN] at h
      cases ht : two x.kind with
      | true =>
        rw [ht, if_pos rfl] at h
        obtain ⟨ts, h1, h2, h3⟩ := ih _ _ h
        match ts, h1, h2, h3 with
        | a :: b :: ts, h1, h2, h3 =>
          refine ⟨.two x a b :: ts, by simpa using h1, fun t ht' => ?_, by simp [h3, Tr.flat]⟩
          rcases List.mem_cons.1 ht' with e | e
          · subst e; exact ⟨ht, h2 a (by simp), h2 b (by simp)⟩
          · exact h2 t (by simp [e])
      | false =>
        rw [ht, if_neg (by simp)] at h
        obtain ⟨ts, h1, h2, h3⟩ := ih _ _ h
        refine ⟨.leaf x :: ts, by simp [h1], fun t ht' => ?_, by simp [h3, Tr.flat]⟩
        rcases List.mem_cons.1 ht' with e | e
        · subst e; exact ht
        · exact h2 t e
theorem check_tree {p : List PNode} (h : checkP p = 0) : ∃ t : Tr, t.ok ∧ p = t.flat ∧ t.size ≤ 14 ∧ ∀ x ∈ t.flat, goodN x := by
  obtain ⟨h1, h2, h3, h4⟩ := checkP_ok h
  obtain ⟨ts, e1, e2, e3⟩ := skip_trees p 1 [] h4
  match ts, e1, e2, e3 with
  | [t], _, e2, e3 =>
    have e : p = t.flat := by simpa using e3
    refine ⟨t, e2 t (by simp), e, by rw [← flat_size, ← e]; exact h1, fun x hx => ?_⟩
    rw [← e] at hx
    exact ⟨by have := List.any_eq_false.1 h2 x hx; simpa using this, by have := List.any_eq_false.1 h3 x hx; simpa using this⟩
/-- A tree that stands at a place of a list of nodes. -/
def TreeAt (p : List PNode) (k : Nat) (t : Tr) : Prop := ∃ r, p.drop k = t.flat ++ r
theorem TreeAt.root (t : Tr) : TreeAt t.flat 0 t := ⟨[], by simp⟩
theorem TreeAt.top {p : List PNode} {k : Nat} {t : Tr} (h : TreeAt p k t) : p[k]? = some t.top := by
  obtain ⟨r, h⟩ := h
  have : (p.drop k)[0]? = some t.top := by rw [h]; cases t <;> simp [Tr.flat, Tr.top]
  simpa using this
theorem TreeAt.le {p : List PNode} {k : Nat} {t : Tr} (h : TreeAt p k t) : k + t.size ≤ p.length := by
  obtain ⟨r, h⟩ := h
  have := congrArg List.length h
  have h2 := size_pos t
  simp [flat_size] at this; omega
theorem TreeAt.first {p : List PNode} {k : Nat} {x : PNode} {a b : Tr} (h : TreeAt p k (.two x a b)) : TreeAt p (k + 1) a := by
  obtain ⟨r, h⟩ := h
  refine ⟨b.flat ++ r, ?_⟩
  rw [← List.drop_drop, h]; simp [Tr.flat]
theorem TreeAt.second {p : List PNode} {k : Nat} {x : PNode} {a b : Tr} (h : TreeAt p k (.two x a b)) : TreeAt p (k + 1 + a.size) b := by
  obtain ⟨r, h⟩ := h
  refine ⟨r, ?_⟩
  rw [← List.drop_drop, ← List.drop_drop, h]; simp [Tr.flat, ← flat_size]
theorem TreeAt.one {p : List PNode} {k : Nat} {t : Tr} (h : TreeAt p k t) (ok : t.ok) : oneM p k = k + t.size := by
  have hl := h.le
  obtain ⟨r, h⟩ := h
  have h0 : ¬ (k : Int) < 0 := by omega
  simp only [oneM, h0, if_false, Int.toNat_natCast, h, skip_flat t r ok]
  have := congrArg List.length h
  have h2 := size_pos t
  simp [flat_size] at this; omega
theorem TreeAt.of_leaf {p : List PNode} {k : Nat} {x : PNode} (h : TreeAt p k (.leaf x)) (ok : (Tr.leaf x).ok) : ofP p k = (0, 0, (k : Int) + 1) := by
  have h1 := h.top; have h2 := h.one ok
  have ok' : Go.Proofs.Ytlafiddfplhafaa.two x.kind = false := ok
  simp only [Tr.top] at h1
  simp only [ofP, h1, ok', h2, Tr.size]; simp
theorem TreeAt.of_two {p : List PNode} {k : Nat} {x : PNode} {a b : Tr} (h : TreeAt p k (.two x a b)) (ok : (Tr.two x a b).ok) : ofP p k = ((k : Int) + 1, (k : Int) + 1 + a.size, (k : Int) + (Tr.two x a b).size) := by
  have h1 := h.top; have h2 := h.one ok
  obtain ⟨o1, o2, o3⟩ := ok
  have h3 := h.first.one o2
  simp only [Tr.top] at h1
  rw [show ((k + 1 : Nat) : Int) = (k : Int) + 1 from by omega] at h3
  simp only [ofP, h1, o1, h2, h3]; simp
theorem good_leaf' {x : PNode} (hk : two x.kind = false) (hg : goodN x) : x.kind = 0 ∨ x.kind = 1 ∨ x.kind = 2 ∨ x.kind = 3 ∨ x.kind = 4 := by
  have h1 := hg.1
  simp [badKind] at h1; simp [two] at hk; omega
theorem good_two' {x : PNode} (hk : two x.kind = true) (hg : goodN x) : x.kind = 5 ∨ x.kind = 6 ∨ x.kind = 7 ∨ x.kind = 8 := by
  have h1 := hg.1
  simp [badKind] at h1; simp [two] at hk; omega
theorem leaf_sig' {x : PNode} (hg : goodN x) : 0 ≤ x.sig ∧ x.sig ≤ 2 := by
  have := hg.2
  simp only [badSig, Bool.or_eq_false_iff, decide_eq_false_iff_not, signsM] at this
  obtain ⟨h1, h2⟩ := this
  split at h2
  · simp at h2; omega
  · split at h2 <;> simp at h2 <;> omega
/-! one instant -/
structure StM where
  W : List Bool
  O : List Bool
def waitSt (s : StM) (k : Nat) : StM := ⟨s.W.set k true, s.O⟩
def emitSt (s : StM) (g : Int) : StM := ⟨s.W, s.O.set g.toNat true⟩
def choiceM (th wa : Int → Bool) (x : PNode) : Bool := if x.kind = 7 then th x.sig else wa x.sig
def beginT (th wa : Int → Bool) : Tr → Nat → StM → Bool × StM
  | .leaf x, k, s => if x.kind = 3 then (true, emitSt s x.sig) else if x.kind = 0 then (true, s) else (false, waitSt s k)
  | .two x a b, k, s =>
    if x.kind = 5 then
      if (beginT th wa a (k + 1) s).1 then beginT th wa b (k + 1 + a.size) (beginT th wa a (k + 1) s).2 else (false, (beginT th wa a (k + 1) s).2)
    else if x.kind = 6 then
      ((beginT th wa a (k + 1) s).1 && (beginT th wa b (k + 1 + a.size) (beginT th wa a (k + 1) s).2).1, (beginT th wa b (k + 1 + a.size) (beginT th wa a (k + 1) s).2).2)
    else if choiceM th wa x then beginT th wa a (k + 1) s else beginT th wa b (k + 1 + a.size) s
def someT (V : List Bool) (t : Tr) (k : Nat) : Bool := ((V.drop k).take t.size).contains true
def onT (th wa : Int → Bool) (V : List Bool) : Tr → Nat → StM → Bool × StM
  | .leaf x, k, s => if x.kind = 1 then (true, s) else if x.kind = 2 then (false, waitSt s k) else if th x.sig then (true, s) else (false, waitSt s k)
  | .two x a b, k, s =>
    if x.kind = 5 then
      if someT V a (k + 1) then
        if (onT th wa V a (k + 1) s).1 then beginT th wa b (k + 1 + a.size) (onT th wa V a (k + 1) s).2 else (false, (onT th wa V a (k + 1) s).2)
      else onT th wa V b (k + 1 + a.size) s
    else
      if someT V a (k + 1) then
        if someT V b (k + 1 + a.size) then
          ((onT th wa V a (k + 1) s).1 && (onT th wa V b (k + 1 + a.size) (onT th wa V a (k + 1) s).2).1, (onT th wa V b (k + 1 + a.size) (onT th wa V a (k + 1) s).2).2)
        else onT th wa V a (k + 1) s
      else if someT V b (k + 1 + a.size) then onT th wa V b (k + 1 + a.size) s
      else (true, s)
structure RestM where
  fresh : Bool
  waits : List Bool
  outs : List Bool
  deriving DecidableEq
def freshM (n : Nat) : RestM := ⟨true, List.replicate n false, [false, false, false]⟩
def thereM (ins : Int) (g : Int) : Bool := decide (ins / 2 ^ g.toNat % 2 = 1)
def wasM (O : List Bool) (g : Int) : Bool := O[g.toNat]?.getD false
def turnM (t : Tr) (r : RestM) (ins : Int) : Bool × StM :=
  if r.fresh then beginT (thereM ins) (wasM r.outs) t 0 ⟨List.replicate t.size false, [false, false, false]⟩
  else if someT r.waits t 0 then onT (thereM ins) (wasM r.outs) r.waits t 0 ⟨List.replicate t.size false, [false, false, false]⟩
  else (false, ⟨List.replicate t.size false, [false, false, false]⟩)
def turnR (t : Tr) (r : RestM) (ins : Int) : RestM := ⟨false, (turnM t r ins).2.W, (turnM t r ins).2.O⟩
/-! lengths, and what is written -/
theorem waitSt_len (s : StM) (k : Nat) : (waitSt s k).W.length = s.W.length ∧ (waitSt s k).O.length = s.O.length := by simp [waitSt]
theorem emitSt_len (s : StM) (g : Int) : (emitSt s g).W.length = s.W.length ∧ (emitSt s g).O.length = s.O.length := by simp [emitSt]
theorem beginT_len (th wa : Int → Bool) : ∀ (t : Tr) (k : Nat) (s : StM), (beginT th wa t k s).2.W.length = s.W.length ∧ (beginT th wa t k s).2.O.length = s.O.length
  | .leaf x, k, s => by
    simp only [beginT]; split
    · exact emitSt_len s _
    split
    · exact ⟨rfl, rfl⟩
    · exact waitSt_len s _
  | .two x a b, k, s => by
    have h1 := beginT_len th wa a (k + 1) s
    have h2 := beginT_len th wa b (k + 1 + a.size) (beginT th wa a (k + 1) s).2
    have h3 := beginT_len th wa b (k + 1 + a.size) s
    simp only [beginT]
    split
    · split
      · exact ⟨h2.1.trans h1.1, h2.2.trans h1.2⟩
      · exact h1
    split
    · exact ⟨h2.1.trans h1.1, h2.2.trans h1.2⟩
    · split
      · exact h1
      · exact h3
theorem onT_len (th wa : Int → Bool) (V : List Bool) : ∀ (t : Tr) (k : Nat) (s : StM), (onT th wa V t k s).2.W.length = s.W.length ∧ (onT th wa V t k s).2.O.length = s.O.length
  | .leaf x, k, s => by
    simp only [onT]; split
    · exact ⟨rfl, rfl⟩
    split
    · exact waitSt_len s _
    split
    · exact ⟨rfl, rfl⟩
    · exact waitSt_len s _
  | .two x a b, k, s => by
    have h1 := onT_len th wa V a (k + 1) s
    have h2 := onT_len th wa V b (k + 1 + a.size) (onT th wa V a (k + 1) s).2
    have h3 := onT_len th wa V b (k + 1 + a.size) s
    have h4 := beginT_len th wa b (k + 1 + a.size) (onT th wa V a (k + 1) s).2
    simp only [onT]
    split
    · split
      · split
        · exact ⟨h4.1.trans h1.1, h4.2.trans h1.2⟩
        · exact h1
      · exact h3
    · split
      · split
        · exact ⟨h2.1.trans h1.1, h2.2.trans h1.2⟩
        · exact h1
      · split
        · exact h3
        · exact ⟨rfl, rfl⟩
/-- Only places of a tree that may wait are written. -/
structure WritesW (t : Tr) (k : Nat) (s s' : StM) : Prop where
  at_ : ∀ j : Nat, s'.W[j]?.getD false = true → s.W[j]?.getD false = true ∨ (k ≤ j ∧ ∃ x, t.flat[j - k]? = some x ∧ waitK x.kind = true)
  keep : ∀ j : Nat, s.W[j]?.getD false = true → s'.W[j]?.getD false = true
theorem WritesW.refl (t : Tr) (k : Nat) (s : StM) : WritesW t k s s := ⟨fun j h => .inl h, fun j h => h⟩
theorem WritesW.same {t : Tr} {k : Nat} {s s' : StM} (h : s'.W = s.W) : WritesW t k s s' := ⟨fun j e => .inl (by rwa [h] at e), fun j e => by rwa [h]⟩
theorem WritesW.wait {x : PNode} {k : Nat} (s : StM) (hx : waitK x.kind = true) : WritesW (.leaf x) k s (waitSt s k) := by
  constructor
  · intro j h
    by_cases e : j = k
    · exact .inr ⟨by omega, x, by rw [e]; simp [Tr.flat], hx⟩
    · left; simp only [waitSt, List.getElem?_set] at h; rwa [if_neg (fun q => e q.symm)] at h
  · intro j h
    simp only [waitSt, List.getElem?_set]
    by_cases e : k = j
    · subst e; rw [if_pos rfl]; split
      · rfl
      · rename_i h2; rw [List.getElem?_eq_none (by omega)] at h; cases h
    · rwa [if_neg e]
theorem WritesW.trans {t : Tr} {k : Nat} {s s' s'' : StM} (h : WritesW t k s s') (g : WritesW t k s' s'') : WritesW t k s s'' :=
  ⟨fun j e => by
    rcases g.at_ j e with h1 | h1
    · exact h.at_ j h1
    · exact .inr h1, fun j e => g.keep j (h.keep j e)⟩
theorem WritesW.first {x : PNode} {a b : Tr} {k : Nat} {s s' : StM} (h : WritesW a (k + 1) s s') : WritesW (.two x a b) k s s' :=
  ⟨fun j e => by
    rcases h.at_ j e with h1 | ⟨h1, y, h2, h3⟩
    · exact .inl h1
    · refine .inr ⟨by omega, y, ?_, h3⟩
      rw [show j - k = (j - (k + 1)) + 1 from by omega]
      have := (List.getElem?_eq_some_iff.1 h2).1
      simp only [Tr.flat, List.getElem?_cons_succ, List.getElem?_append_left this]; exact h2, h.keep⟩
theorem WritesW.second {x : PNode} {a b : Tr} {k : Nat} {s s' : StM} (h : WritesW b (k + 1 + a.size) s s') : WritesW (.two x a b) k s s' :=
  ⟨fun j e => by
    rcases h.at_ j e with h1 | ⟨h1, y, h2, h3⟩
    · exact .inl h1
    · refine .inr ⟨by omega, y, ?_, h3⟩
      rw [show j - k = (a.size + (j - (k + 1 + a.size))) + 1 from by omega]
      simp only [Tr.flat, List.getElem?_cons_succ]
      rw [List.getElem?_append_right (by rw [flat_size]; omega), flat_size, Nat.add_sub_cancel_left]; exact h2, h.keep⟩
theorem wait_kind {x : PNode} (ok : two x.kind = false) (hg : goodN x) (h3 : ¬ x.kind = 3) (h0 : ¬ x.kind = 0) : waitK x.kind = true := by
  have := hg.1
  simp [badKind] at this; simp [two] at ok; simp [waitK]; omega
theorem sub_good {x : PNode} {a b : Tr} (hg : ∀ y ∈ (Tr.two x a b).flat, goodN y) : (∀ y ∈ a.flat, goodN y) ∧ (∀ y ∈ b.flat, goodN y) :=
  ⟨fun y hy => hg y (by simp [Tr.flat, hy]), fun y hy => hg y (by simp [Tr.flat, hy])⟩
theorem begin_writes (th wa : Int → Bool) : ∀ (t : Tr) (k : Nat) (s : StM), t.ok → (∀ x ∈ t.flat, goodN x) → WritesW t k s (beginT th wa t k s).2
  | .leaf x, k, s, ok, hg => by
    simp only [beginT]; split
    · exact .same rfl
    split
    · exact .refl _ _ _
    · exact .wait s (wait_kind ok (hg x (by simp [Tr.flat])) ‹_› ‹_›)
  | .two x a b, k, s, ok, hg => by
    have hgs := sub_good hg
    have h1 := (begin_writes th wa a (k + 1) s ok.2.1 hgs.1).first (x := x) (b := b)
    have h2 := (begin_writes th wa b (k + 1 + a.size) (beginT th wa a (k + 1) s).2 ok.2.2 hgs.2).second (x := x)
    have h3 := (begin_writes th wa b (k + 1 + a.size) s ok.2.2 hgs.2).second (x := x)
    simp only [beginT]
    split
    · split
      · exact h1.trans h2
      · exact h1
    split
    · exact h1.trans h2
    · split
      · exact h1
      · exact h3
/-- Where some wait in a leaf, it may wait. -/
def waitsOK (p : List PNode) (V : List Bool) : Prop := ∀ j : Nat, V[j]?.getD false = true → ∃ x, p[j]? = some x ∧ waitK x.kind = true
theorem some_leaf {V : List Bool} {x : PNode} {k : Nat} (h : someT V (.leaf x) k = true) : V[k]?.getD false = true := by
  simp only [someT, Tr.size, List.contains_eq_mem, decide_eq_true_eq] at h
  obtain ⟨i, hi⟩ := List.mem_iff_getElem?.1 h
  have h2 := (List.getElem?_eq_some_iff.1 hi).1
  rw [List.getElem?_take] at hi
  split at hi
  · rw [List.getElem?_drop] at hi
    have : i = 0 := by omega
    subst this; simp at hi; simp [hi]
  · cases hi
theorem some_two {p : List PNode} {V : List Bool} (hV : waitsOK p V) {x : PNode} {a b : Tr} {k : Nat} (ht : TreeAt p k (.two x a b)) (ok : (Tr.two x a b).ok) (h : someT V (.two x a b) k = true) :
    someT V a (k + 1) = true ∨ someT V b (k + 1 + a.size) = true := by
  have hx : waitK x.kind = false := by have := ok.1; simp [two] at this; simp [waitK]; omega
  simp only [someT, Tr.size, List.contains_eq_mem, decide_eq_true_eq] at h ⊢
  obtain ⟨i, hi⟩ := List.mem_iff_getElem?.1 h
  rw [List.getElem?_take] at hi
  split at hi
  · rename_i hlt
    rw [List.getElem?_drop] at hi
    rcases Nat.lt_or_ge i 1 with e | e
    · have : i = 0 := by omega
      subst this
      obtain ⟨y, g1, g2⟩ := hV k (by simp at hi; simp [hi])
      have := ht.top; rw [g1] at this; injection this with this; rw [this] at g2
      simp only [Tr.top] at g2; rw [hx] at g2; cases g2
    · rcases Nat.lt_or_ge i (1 + a.size) with e2 | e2
      · left; refine List.mem_iff_getElem?.2 ⟨i - 1, ?_⟩
        rw [List.getElem?_take, if_pos (by omega), List.getElem?_drop, show k + 1 + (i - 1) = k + i from by omega]; exact hi
      · right; refine List.mem_iff_getElem?.2 ⟨i - 1 - a.size, ?_⟩
        rw [List.getElem?_take, if_pos (by omega), List.getElem?_drop, show k + 1 + a.size + (i - 1 - a.size) = k + i from by omega]; exact hi
  · cases hi
theorem on_writes (th wa : Int → Bool) {p : List PNode} {V : List Bool} (hV : waitsOK p V) : ∀ (t : Tr) (k : Nat) (s : StM), TreeAt p k t → t.ok → (∀ x ∈ t.flat, goodN x) → someT V t k = true → WritesW t k s (onT th wa V t k s).2
  | .leaf x, k, s, ht, ok, hg, hs => by
    have hw : waitK x.kind = true := by
      obtain ⟨y, h1, h2⟩ := hV k (some_leaf hs)
      have := ht.top; rw [h1] at this; injection this with this; rw [this] at h2; exact h2
    simp only [onT]; split
    · exact .refl _ _ _
    split
    · exact .wait s hw
    split
    · exact .refl _ _ _
    · exact .wait s hw
  | .two x a b, k, s, ht, ok, hg, hs => by
    have hgs := sub_good hg
    have h4 := (begin_writes th wa b (k + 1 + a.size) (onT th wa V a (k + 1) s).2 ok.2.2 hgs.2).second (x := x)
    have h1 := fun h => (on_writes th wa hV a (k + 1) s ht.first ok.2.1 hgs.1 h).first (x := x) (b := b)
    have h2 := fun h => (on_writes th wa hV b (k + 1 + a.size) (onT th wa V a (k + 1) s).2 ht.second ok.2.2 hgs.2 h).second (x := x)
    have h3 := fun h => (on_writes th wa hV b (k + 1 + a.size) s ht.second ok.2.2 hgs.2 h).second (x := x)
    have hsplit : someT V (.two x a b) k = true → waitK x.kind = false → someT V a (k + 1) = true ∨ someT V b (k + 1 + a.size) = true := by
      intro h hx
      simp only [someT, Tr.size, List.contains_eq_mem, decide_eq_true_eq] at h ⊢
      obtain ⟨i, hi⟩ := List.mem_iff_getElem?.1 h
      rw [List.getElem?_take] at hi
      split at hi
      · rename_i hlt
        rw [List.getElem?_drop] at hi
        rcases Nat.lt_or_ge i 1 with e | e
        · have : i = 0 := by omega
          subst this
          obtain ⟨y, g1, g2⟩ := hV k (by simp at hi; simp [hi])
          have := ht.top; rw [g1] at this; injection this with this; rw [this] at g2
          simp only [Tr.top] at g2; rw [hx] at g2; cases g2
        · rcases Nat.lt_or_ge i (1 + a.size) with e2 | e2
          · left; refine List.mem_iff_getElem?.2 ⟨i - 1, ?_⟩
            rw [List.getElem?_take, if_pos (by omega), List.getElem?_drop, show k + 1 + (i - 1) = k + i from by omega]; exact hi
          · right; refine List.mem_iff_getElem?.2 ⟨i - 1 - a.size, ?_⟩
            rw [List.getElem?_take, if_pos (by omega), List.getElem?_drop, show k + 1 + a.size + (i - 1 - a.size) = k + i from by omega]; exact hi
      · cases hi
    have hx : waitK x.kind = false := by have := ok.1; simp [two] at this; simp [waitK]; omega
    have hor := hsplit hs hx
    simp only [onT]
    split
    · split
      · split
        · exact (h1 ‹_›).trans h4
        · exact h1 ‹_›
      · rename_i hn
        rcases hor with e | e
        · exact absurd e hn
        · exact h3 e
    · split
      · split
        · exact (h1 ‹_›).trans (h2 ‹_›)
        · exact h1 ‹_›
      · split
        · exact h3 ‹_›
        · exact .refl _ _ _
end Go.Proofs.Ytlafiddfplhafaa
/- The walker of package walk: how it lies in memory; there, wait, some, Fresh. -/
namespace Go.Proofs.Ytlafiddfplhafaa
set_option linter.unusedVariables false
set_option linter.unusedSimpArgs false
open Go.RowKit
/-- All that was there is as it was, but for two blocks; new memory may have come. -/
structure Off (g1 g2 : Nat) (w w' : World) : Prop where
  os : w'.os = w.os
  tape : w'.tape = w.tape
  output : w'.output = w.output
  size : w.heap.size ≤ w'.heap.size
  block : ∀ k, k < w.heap.size → k ≠ g1 → k ≠ g2 → w'.heap[k]? = w.heap[k]?
section
variable {g1 g2 : Nat} {a b c : World}
theorem Off.refl (g1 g2 : Nat) (w : World) : Off g1 g2 w w := ⟨rfl, rfl, rfl, Nat.le_refl _, fun _ _ _ _ => rfl⟩
theorem Off.trans (h : Off g1 g2 a b) (k : Off g1 g2 b c) : Off g1 g2 a c :=
  ⟨k.os.trans h.os, k.tape.trans h.tape, k.output.trans h.output, Nat.le_trans h.size k.size, fun i hi h1 h2 => (k.block i (Nat.lt_of_lt_of_le hi h.size) h1 h2).trans (h.block i hi h1 h2)⟩
theorem Off.of_ext (h : Ext a b) : Off g1 g2 a b := ⟨h.os, h.tape, h.output, h.size, fun i hi _ _ => h.block i hi⟩
theorem Off.alloc (h : Off g1 g2 a b) (o : Obj) : Off g1 g2 a (b.alloc o) := h.trans (.of_ext ((Ext.refl b).alloc o))
theorem Off.drewN (h : Off g1 g2 a b) (n : Nat) : Off g1 g2 a (b.drewN n) := h.trans (.of_ext ((Ext.refl b).drewN n))
theorem Off.drew (h : Off g1 g2 a b) : Off g1 g2 a b.drew := h.trans (.of_ext ((Ext.refl b).drew))
theorem Off.set1 (h : Off g1 g2 a b) (j : Nat) (v : Value) : Off g1 g2 a (b.setCell ⟨g1, j, none⟩ v) :=
  h.trans ⟨rfl, rfl, rfl, by simp, fun i _ h1 _ => heap_setCell_other b ⟨g1, j, none⟩ i v h1⟩
theorem Off.set2 (h : Off g1 g2 a b) (j : Nat) (v : Value) : Off g1 g2 a (b.setCell ⟨g2, j, none⟩ v) :=
  h.trans ⟨rfl, rfl, rfl, by simp, fun i _ _ h2 => heap_setCell_other b ⟨g2, j, none⟩ i v h2⟩
theorem Off.setNew (h : Off g1 g2 a b) {p : Addr} (hp : a.heap.size ≤ p.block) (v : Value) : Off g1 g2 a (b.setCell p v) :=
  ⟨h.os, h.tape, h.output, by simpa using h.size, fun i hi h1 h2 => by
    rw [heap_setCell_other b p i v (by omega)]; exact h.block i hi h1 h2⟩
theorem Off.cell (h : Off g1 g2 a b) {p : Addr} {u : Value} (hc : a.cell? p = some u) (h1 : p.block ≠ g1) (h2 : p.block ≠ g2) : b.cell? p = some u :=
  (World.cell?_of_block (h.block p.block (lt_of_cell hc) h1 h2)).trans hc
theorem Off.free (h : Off g1 g2 a b) {p : Addr} {u : Value} (hc : a.cell? p = some u) (h1 : p.block ≠ g1) (h2 : p.block ≠ g2) : b.frozen? p = a.frozen? p :=
  World.frozen?_of_block (h.block p.block (lt_of_cell hc) h1 h2)
theorem Off.ext {w0 : World} (h : Off g1 g2 a b) (e : Ext w0 a) (h1 : w0.heap.size ≤ g1) (h2 : w0.heap.size ≤ g2) : Ext w0 b :=
  ⟨h.os.trans e.os, h.tape.trans e.tape, h.output.trans e.output, Nat.le_trans e.size h.size, fun i hi => (h.block i (Nat.lt_of_lt_of_le hi e.size) (by omega) (by omega)).trans (e.block i hi)⟩
end
/-- The walker in memory, and the state of its next rest. -/
structure WSt (w0 : World) (b g1 g2 : Nat) (PA : Option Addr) (n pc : Nat) (fr : Bool) (WA : Option Addr) (wc : Nat) (OA : Option Addr) (oc : Nat) (ins : Int) (wr : World) (s : StM) : Prop where
  ext : Ext w0 wr
  hb : w0.heap.size ≤ b
  h1 : w0.heap.size ≤ g1
  h2 : w0.heap.size ≤ g2
  b1 : b ≠ g1
  b2 : b ≠ g2
  g12 : g1 ≠ g2
  c0 : wr.cell? ⟨b, 0, none⟩ = some (.slice PA n pc)
  c1 : wr.cell? ⟨b, 1, none⟩ = some (Bv fr)
  c2 : wr.cell? ⟨b, 2, none⟩ = some (.slice WA n wc)
  c3 : wr.cell? ⟨b, 3, none⟩ = some (.slice OA 3 oc)
  c4 : wr.cell? ⟨b, 4, none⟩ = some (Bv false)
  c5 : wr.cell? ⟨b, 5, none⟩ = some (.slice (some ⟨g1, 0, none⟩) n n)
  c6 : wr.cell? ⟨b, 6, none⟩ = some (.slice (some ⟨g2, 0, none⟩) 3 3)
  c7 : wr.cell? ⟨b, 7, none⟩ = some (I ins)
  W : wr.ownsRow w0.heap.size 4 1 (.slice (some ⟨g1, 0, none⟩) n n) n (s.W.map Bv)
  O : wr.ownsRow w0.heap.size 4 1 (.slice (some ⟨g2, 0, none⟩) 3 3) 3 (s.O.map Bv)
section
variable {w0 : World} {b g1 g2 : Nat} {PA : Option Addr} {n pc : Nat} {fr : Bool} {WA : Option Addr} {wc : Nat} {OA : Option Addr} {oc : Nat} {ins : Int} {wr w' : World} {s s' : StM}
theorem WSt.off (h : WSt w0 b g1 g2 PA n pc fr WA wc OA oc ins wr s) (k : Off g1 g2 wr w') (hW : w'.ownsRow w0.heap.size 4 1 (.slice (some ⟨g1, 0, none⟩) n n) n (s'.W.map Bv)) (hO : w'.ownsRow w0.heap.size 4 1 (.slice (some ⟨g2, 0, none⟩) 3 3) 3 (s'.O.map Bv)) :
    WSt w0 b g1 g2 PA n pc fr WA wc OA oc ins w' s' :=
  ⟨k.ext h.ext h.h1 h.h2, h.hb, h.h1, h.h2, h.b1, h.b2, h.g12, k.cell h.c0 h.b1 h.b2, k.cell h.c1 h.b1 h.b2, k.cell h.c2 h.b1 h.b2, k.cell h.c3 h.b1 h.b2, k.cell h.c4 h.b1 h.b2, k.cell h.c5 h.b1 h.b2, k.cell h.c6 h.b1 h.b2, k.cell h.c7 h.b1 h.b2, hW, hO⟩
theorem WSt.more (h : WSt w0 b g1 g2 PA n pc fr WA wc OA oc ins wr s) (k : Ext wr w') : WSt w0 b g1 g2 PA n pc fr WA wc OA oc ins w' s :=
  h.off (.of_ext k) (own_ext h.W k) (own_ext h.O k)
/-- A place of the next waits is written. -/
theorem WSt.setW (h : WSt w0 b g1 g2 PA n pc fr WA wc OA oc ins wr s) (k : Nat) : WSt w0 b g1 g2 PA n pc fr WA wc OA oc ins (wr.setCell ⟨g1, k, none⟩ (Bv true)) (waitSt s k) :=
  h.off ((Off.refl g1 g2 wr).set1 k _) (by have := (h.W.stored k (Bv true)).1; simpa [waitSt, List.map_set] using this) (own_other h.O (fun e => h.g12 (Option.some.inj e).symm))
theorem WSt.setO (h : WSt w0 b g1 g2 PA n pc fr WA wc OA oc ins wr s) (k : Nat) : WSt w0 b g1 g2 PA n pc fr WA wc OA oc ins (wr.setCell ⟨g2, k, none⟩ (Bv true)) (emitSt s k) :=
  h.off ((Off.refl g1 g2 wr).set2 k _) (own_other h.W (fun e => h.g12 (Option.some.inj e))) (by have := (h.O.stored k (Bv true)).1; simpa [emitSt, List.map_set] using this)
end
section
variable (w0 : World) (b g1 g2 : Nat) (PA : Option Addr) (n pc : Nat) (fr : Bool) (WA : Option Addr) (wc : Nat) (OA : Option Addr) (oc : Nat) (ins : Int)
set_option maxHeartbeats 2000000 in
theorem wthere_any (wr : World) (s : StM) (h : WSt w0 b g1 g2 PA n pc fr WA wc OA oc ins wr s) (h0 : 0 ≤ ins) (h8 : ins < 8) (g : Int) (g0 : 0 ≤ g) (g2' : g ≤ 2) :
    Calls Try.prog 94 #[.pointer (some ⟨b, 0, none⟩), I g] wr fun e w' => e = .returned (.bool (thereM ins g)) ∧ wr = w' := by
  have c7 := h.c7
  clear h
  have h1 : ins = 0 ∨ ins = 1 ∨ ins = 2 ∨ ins = 3 ∨ ins = 4 ∨ ins = 5 ∨ ins = 6 ∨ ins = 7 := by omega
  have h2 : g = 0 ∨ g = 1 ∨ g = 2 := by omega
  clear h0 h8 g0 g2'
  rcases h1 with rfl | rfl | rfl | rfl | rfl | rfl | rfl | rfl <;> rcases h2 with rfl | rfl | rfl
  all_goals
    go_enter Try.func94, Try.ntmps94
    go_wp2
    go_ret
    exact ⟨ret_bool (by decide), rfl⟩
theorem wwait_any (wr : World) (s : StM) (h : WSt w0 b g1 g2 PA n pc fr WA wc OA oc ins wr s) (k : Nat) (hk : k < n) :
    Calls Try.prog 95 #[.pointer (some ⟨b, 0, none⟩), I k] wr fun e w' => e = .returned (.bool false) ∧ wr.setCell ⟨g1, k, none⟩ (Bv true) = w' := by
  have c5 := h.c5
  have hf := own_at h.W hk
  obtain ⟨⟨u, hu, hcu⟩, hfz, hbg⟩ := hf
  clear h hu
  go_enter Try.func95, Try.ntmps95
  go_wp2
  go_ret
  exact ⟨rfl, rfl⟩
end
theorem Sl.sub {w : World} {b off n : Nat} {cs : List Value} (h : Sl w (some ⟨b, off, none⟩) n cs) (lo m : Nat) (hm : lo + m ≤ n) : Sl w (some ⟨b, off + lo, none⟩) m ((cs.drop lo).take m) := by
  refine ⟨by have := h.1; simp; omega, fun k u hu => ?_⟩
  rw [List.getElem?_take] at hu
  split at hu
  · rw [List.getElem?_drop] at hu
    obtain ⟨b', off', e, hc⟩ := h.2 _ _ hu
    injection e with e; injection e with e1 e2
    subst e1; subst e2
    exact ⟨_, _, rfl, by rw [Nat.add_assoc]; exact hc⟩
  · cases hu
theorem wsome_any (w0 : World) (b g1 g2 : Nat) (PA : Option Addr) (n pc : Nat) (fr : Bool) (WA : Option Addr) (wc : Nat) (OA : Option Addr) (oc : Nat) (ins : Int) (wr : World) (s : StM) (h : WSt w0 b g1 g2 PA n pc fr WA wc OA oc ins wr s)
    (p : List PNode) (V : List Bool) (hp : SlN w0 PA n p) (hV : Sl w0 WA n (V.map Bv)) (hwc : n ≤ wc) (hn : n ≤ 14) (k : Nat) (t : Tr) (ht : TreeAt p k t) (ok : t.ok) :
    Calls Try.prog 67 #[.pointer (some ⟨b, 0, none⟩), I k] wr fun e w' => e = .returned (.bool (someT V t k)) ∧ wr = w' := by
  have hle := ht.le
  have hpl := hp.1
  have hsz := size_pos t
  have hkn : k < n := by omega
  obtain ⟨wb, woff, x, rfl, -, -⟩ := hV.next hkn
  have c0 := h.c0; have c2 := h.c2
  have hof : ((ofP p k).2.2) = (k : Int) + t.size := by
    cases t with
    | leaf x => rw [ht.of_leaf ok]; simp [Tr.size]
    | two x a b => rw [ht.of_two ok]
  have hks : k + t.size ≤ n := by omega
  have hcc : k + t.size ≤ wc := by omega
  have hkc : k ≠ wc := by omega
  have hP := Lib.hid (hp.keep h.ext.keeps)
  have hVV := Lib.hid ((hV.keep h.ext.keeps).sub k t.size hks)
  have HOF := Lib.hid hof
  have hmap : ((V.map Bv).drop k).take t.size = ((V.drop k).take t.size).map Bv := by simp
  have HMAP := Lib.hid hmap
  have kk : IntKind.i64.wrap ((k : Int) + (t.size : Int) - (k : Int)) = t.size := by rw [show (k : Int) + (t.size : Int) - (k : Int) = t.size from by omega]; exact IntWalk.i64_in _ (by omega)
  clear h hof ok hp hV ht hle hpl hmap kk
  go_enter Try.func67, Try.ntmps67
  go_wp2_with fail
  refine (progOf_any _ n pc p k wr hP.out (by omega) hkn).mono ?_; rintro e w' ⟨rfl, rfl⟩; rw [HOF.out]
  go_wp2_with fail
  refine (containsBool_any _ t.size _ ((V.drop k).take t.size) true wr (by rw [← HMAP.out]; exact hVV.out) (by unfold maxLen; omega)).mono ?_; rintro e w' ⟨rfl, rfl⟩
  go_wp2
  go_ret
  exact ⟨ret_bool (by simp [someT]), rfl⟩
set_option maxHeartbeats 2000000 in
theorem fresh_any (A : Option Addr) (n c : Nat) (w : World) (hn : n ≤ 14) :
    Calls Try.prog 25 #[.slice A n c] w fun e w' => ∃ g1 g2, e = .returned (.agg #[Bv true, .slice (some ⟨g1, 0, none⟩) n n, .slice (some ⟨g2, 0, none⟩) 3 3]) ∧ w.heap.size ≤ g1 ∧ w.heap.size ≤ g2 ∧ g1 ≠ g2 ∧
      w'.ownsRow w.heap.size 4 1 (.slice (some ⟨g1, 0, none⟩) n n) n ((List.replicate n false).map Bv) ∧ w'.ownsRow w.heap.size 4 1 (.slice (some ⟨g2, 0, none⟩) 3 3) 3 (([false, false, false] : List Bool).map Bv) ∧ Ext w w' := by
  have hmk := fun W => run_make1 (P := Try.prog) 31 4 tab_bool Try.underlying31 rfl n (by omega) (by omega) W
  have hm3 : ∀ W, (Instr.makeSlice 31 (.int .i64 3) (.int .i64 3)).run Try.prog W = .ok (.slice (some ⟨W.heap.size, 0, none⟩) 3 3) (W.alloc (.cells (zeros (.bool false) 3) 4)) := fun W => run_make1 (P := Try.prog) 31 4 tab_bool Try.underlying31 rfl 3 (by omega) (by omega) W
  go_enter Try.func25, Try.ntmps25
  go_wp2_with fail
  go_region
  · go_wp2
    refine bodyPost_ret (v := .agg #[Bv true, .slice (some ⟨w.heap.size + 1, 0, none⟩) n n, .slice (some ⟨w.heap.size + 1 + 1, 0, none⟩) 3 3]) (by simp [results, Try.results25, go_sem]) rfl ⟨w.heap.size + 1, w.heap.size + 1 + 1, rfl, by omega, by omega, by omega, ?_, ?_, (((Ext.refl w).alloc _).alloc _).alloc _ |>.drew⟩
    · have := own_ext (own_made (w.alloc (.cells #[.bool true, .slice (some ⟨w.heap.size + 1, 0, none⟩) n n, .slice (some ⟨w.heap.size + 1 + 1, 0, none⟩) 3 3] 59)) 4 (.bool false) n w.heap.size (by simp) (by unfold maxLen; omega)) (((Ext.refl _).alloc (.cells (zeros (.bool false) 3) 4)).drew)
      simpa using this
    · have := own_ext (own_made ((w.alloc (.cells #[.bool true, .slice (some ⟨w.heap.size + 1, 0, none⟩) n n, .slice (some ⟨w.heap.size + 1 + 1, 0, none⟩) 3 3] 59)).alloc (.cells (zeros (.bool false) n) 4)) 4 (.bool false) 3 w.heap.size (by simp; omega) (by unfold maxLen; omega)) ((Ext.refl _).drew)
      simpa using this
  · go_wp2
    refine bodyPost_ret (v := .agg #[Bv true, .slice (some ⟨w.heap.size + 1 + 1, 0, none⟩) n n, .slice (some ⟨w.heap.size + 1, 0, none⟩) 3 3]) (by simp [results, Try.results25, go_sem]) rfl ⟨w.heap.size + 1 + 1, w.heap.size + 1, rfl, by omega, by omega, by omega, ?_, ?_, (((Ext.refl w).alloc _).alloc _).alloc _ |>.drew⟩
    · have := own_ext (own_made ((w.alloc (.cells #[.bool true, .slice (some ⟨w.heap.size + 1 + 1, 0, none⟩) n n, .slice (some ⟨w.heap.size + 1, 0, none⟩) 3 3] 59)).alloc (.cells (zeros (.bool false) 3) 4)) 4 (.bool false) n w.heap.size (by simp; omega) (by unfold maxLen; omega)) ((Ext.refl _).drew)
      simpa using this
    · have := own_ext (own_made (w.alloc (.cells #[.bool true, .slice (some ⟨w.heap.size + 1 + 1, 0, none⟩) n n, .slice (some ⟨w.heap.size + 1, 0, none⟩) 3 3] 59)) 4 (.bool false) 3 w.heap.size (by simp) (by unfold maxLen; omega)) (((Ext.refl _).alloc (.cells (zeros (.bool false) n) 4)).drew)
      simpa using this
end Go.Proofs.Ytlafiddfplhafaa
/- The walker's begin walked. -/
namespace Go.Proofs.Ytlafiddfplhafaa
set_option linter.unusedVariables false
set_option linter.unusedSimpArgs false
open Go.RowKit
attribute [local go_sem ↓] Go.wp_at_zero Go.wp_at_succ
section
variable (w0 : World) (b g1 g2 : Nat) (PA : Option Addr) (n pc : Nat) (fr : Bool) (WA : Option Addr) (wc : Nat) (OA : Option Addr) (oc : Nat) (ins : Int) (p : List PNode) (outs : List Bool)
set_option maxRecDepth 100000 in
set_option maxHeartbeats 4000000 in
theorem wbegin_leaf (hp : SlN w0 PA n p) (hn : n ≤ 14) (x : PNode) (k : Nat) (wr : World) (s : StM) (ht : TreeAt p k (.leaf x)) (ok : (Tr.leaf x).ok) (hg : goodN x) (h : WSt w0 b g1 g2 PA n pc fr WA wc OA oc ins wr s) :
    Calls Try.prog 66 #[.pointer (some ⟨b, 0, none⟩), I k] wr fun e w' => e = .returned (.bool (beginT (thereM ins) (wasM outs) (.leaf x) k s).1) ∧
      WSt w0 b g1 g2 PA n pc fr WA wc OA oc ins w' (beginT (thereM ins) (wasM outs) (.leaf x) k s).2 ∧ Off g1 g2 wr w' := by
  have hle := ht.le
  have hpl := hp.1
  have hkn : k < n := by simp [Tr.size] at hle; omega
  have hof := ht.of_leaf ok
  have hk := good_leaf' ok hg
  have hsg := hg.2
  have htop := ht.top
  obtain ⟨pb, poff, y, rfl, d0, d1, -, hy⟩ := hp.next hkn
  have hyx : y = x := by rw [htop] at hy; injection hy with hy; exact hy.symm
  subst hyx
  have c0 := h.c0; have c6 := h.c6
  have hbl := lt_of_cell c0
  have e0 := h.ext.keeps _ _ d0; have e1 := h.ext.keeps _ _ d1
  have hpl2 := lt_of_cell e0
  have HP := Lib.hid hp; have HOF := Lib.hid hof; have HS := Lib.hid h
  obtain ⟨kd, sg⟩ := y
  simp only [beginT] at *
  clear hp hof h ht ok hg hle hpl htop hy d0 d1
  rcases hk with rfl | rfl | rfl | rfl | rfl
  · clear c6 hsg
    go_enter Try.func66, Try.ntmps66
    go_wp2_with fail
    refine (progOf_any _ n pc p k _ ((HP.out.keep HS.out.ext.keeps).keep (((Ext.refl wr).alloc _).alloc _).keeps) (by omega) hkn).mono ?_; rintro e w' ⟨rfl, rfl⟩; rw [HOF.out]
    go_wp2
    go_ret
    exact ⟨rfl, HS.out.more (((((Ext.refl wr).alloc _).alloc _).alloc _).alloc _), .of_ext (((((Ext.refl wr).alloc _).alloc _).alloc _).alloc _)⟩
  · clear c6 hsg
    go_enter Try.func66, Try.ntmps66
    go_wp2_with fail
    refine (progOf_any _ n pc p k _ ((HP.out.keep HS.out.ext.keeps).keep (((Ext.refl wr).alloc _).alloc _).keeps) (by omega) hkn).mono ?_; rintro e w' ⟨rfl, rfl⟩; rw [HOF.out]
    go_wp2_with fail
    have hx4 := (((((Ext.refl wr).alloc (.cells #[.pointer (some ⟨b, 0, none⟩)] 125)).alloc (.cells #[.int .i64 1, .int .i64 sg] 64)).alloc (.cells #[.int .i64 0] 3)).alloc (.cells #[.int .i64 0] 3))
    refine (wwait_any w0 b g1 g2 _ n pc fr WA wc OA oc ins _ s (HS.out.more hx4) k hkn).mono ?_; rintro e w' ⟨rfl, rfl⟩
    go_wp2
    go_ret
    exact ⟨rfl, (HS.out.more hx4).setW k, (Off.of_ext hx4).set1 k _⟩
  · clear c6 hsg
    go_enter Try.func66, Try.ntmps66
    go_wp2_with fail
    refine (progOf_any _ n pc p k _ ((HP.out.keep HS.out.ext.keeps).keep (((Ext.refl wr).alloc _).alloc _).keeps) (by omega) hkn).mono ?_; rintro e w' ⟨rfl, rfl⟩; rw [HOF.out]
    go_wp2_with fail
    have hx4 := (((((Ext.refl wr).alloc (.cells #[.pointer (some ⟨b, 0, none⟩)] 125)).alloc (.cells #[.int .i64 2, .int .i64 sg] 64)).alloc (.cells #[.int .i64 0] 3)).alloc (.cells #[.int .i64 0] 3))
    refine (wwait_any w0 b g1 g2 _ n pc fr WA wc OA oc ins _ s (HS.out.more hx4) k hkn).mono ?_; rintro e w' ⟨rfl, rfl⟩
    go_wp2
    go_ret
    exact ⟨rfl, (HS.out.more hx4).setW k, (Off.of_ext hx4).set1 k _⟩
  · have hsr : 0 ≤ sg ∧ sg < 3 := by simp [badSig, signsM] at hsg; omega
    obtain ⟨q, rfl⟩ := Int.eq_ofNat_of_zero_le hsr.1
    have hq : q < 3 := by omega
    clear hsg hsr
    go_enter Try.func66, Try.ntmps66
    go_wp2_with fail
    refine (progOf_any _ n pc p k _ ((HP.out.keep HS.out.ext.keeps).keep (((Ext.refl wr).alloc _).alloc _).keeps) (by omega) hkn).mono ?_; rintro e w' ⟨rfl, rfl⟩; rw [HOF.out]
    go_wp2_with fail
    have hx4 := (((((Ext.refl wr).alloc (.cells #[.pointer (some ⟨b, 0, none⟩)] 125)).alloc (.cells #[.int .i64 3, .int .i64 (q : Int)] 64)).alloc (.cells #[.int .i64 0] 3)).alloc (.cells #[.int .i64 0] 3))
    have z0 : ((((wr.alloc (.cells #[.pointer (some ⟨b, 0, none⟩)] 125)).alloc (.cells #[.int .i64 3, .int .i64 (q : Int)] 64)).alloc (.cells #[.int .i64 0] 3)).alloc (.cells #[.int .i64 0] 3)).cell? ⟨wr.heap.size, 0, none⟩ = some (.pointer (some ⟨b, 0, none⟩)) := by go_simp
    have z1 : ((((wr.alloc (.cells #[.pointer (some ⟨b, 0, none⟩)] 125)).alloc (.cells #[.int .i64 3, .int .i64 (q : Int)] 64)).alloc (.cells #[.int .i64 0] 3)).alloc (.cells #[.int .i64 0] 3)).cell? ⟨wr.heap.size + 1, 1, none⟩ = some (.int .i64 (q : Int)) := by go_simp
    generalize (((wr.alloc (.cells #[.pointer (some ⟨b, 0, none⟩)] 125)).alloc (.cells #[.int .i64 3, .int .i64 (q : Int)] 64)).alloc (.cells #[.int .i64 0] 3)).alloc (.cells #[.int .i64 0] 3) = W4 at *
    have HS4 := HS.out.more hx4
    have y6 := HS4.c6
    obtain ⟨⟨u, hu, hcu⟩, hfz, -⟩ := own_at HS4.O hq
    have HS5 := Lib.hid HS4; have HX4 := Lib.hid hx4
    clear hx4 HS4 hu c6
    have hq0 : (0 : Int) ≤ (q : Int) := by omega
    have hq3 : (q : Int) < 3 := by omega
    go_still_tail 8, (by kernel_rfl)
    change wpList _ _ _ _ _ W4.drew
    go_wp2
    go_ret
    exact ⟨rfl, (HS5.out.setO q).more ((Ext.refl _).drew), ((Off.of_ext HX4.out).set2 q _).drew⟩
  · clear c6 hsg
    go_enter Try.func66, Try.ntmps66
    go_wp2_with fail
    refine (progOf_any _ n pc p k _ ((HP.out.keep HS.out.ext.keeps).keep (((Ext.refl wr).alloc _).alloc _).keeps) (by omega) hkn).mono ?_; rintro e w' ⟨rfl, rfl⟩; rw [HOF.out]
    go_wp2_with fail
    have hx4 := (((((Ext.refl wr).alloc (.cells #[.pointer (some ⟨b, 0, none⟩)] 125)).alloc (.cells #[.int .i64 4, .int .i64 sg] 64)).alloc (.cells #[.int .i64 0] 3)).alloc (.cells #[.int .i64 0] 3))
    refine (wwait_any w0 b g1 g2 _ n pc fr WA wc OA oc ins _ s (HS.out.more hx4) k hkn).mono ?_; rintro e w' ⟨rfl, rfl⟩
    go_wp2
    go_ret
    exact ⟨rfl, (HS.out.more hx4).setW k, (Off.of_ext hx4).set1 k _⟩
end
end Go.Proofs.Ytlafiddfplhafaa
/- The walker's begin walked: nodes of two parts. (Printed by walkbegin2.py.) -/
namespace Go.Proofs.Ytlafiddfplhafaa
set_option linter.unusedVariables false
set_option linter.unusedSimpArgs false
open Go.RowKit
attribute [local go_sem ↓] Go.wp_at_zero Go.wp_at_succ
theorem wchoice_any (b m : Nat) (f g : Int) (c : Bool) (W : World) (z0 : W.cell? ⟨m, 0, none⟩ = some (.pointer (some ⟨b, 0, none⟩))) (z6 : W.cell? ⟨m + 1 + 1, 0, none⟩ = some (I f)) (z7 : W.cell? ⟨m + 1 + 1 + 1, 0, none⟩ = some (I g))
    (r : Bool) (R : World → Prop) (hc : Calls Try.prog 66 #[.pointer (some ⟨b, 0, none⟩), I (if c then f else g)] W fun e w' => e = .returned (.bool r) ∧ R w') :
    Calls Try.prog 93 #[Bv c, .pointer (some ⟨m, 0, none⟩), .pointer (some ⟨m + 1 + 1, 0, none⟩), .pointer (some ⟨m + 1 + 1 + 1, 0, none⟩)] W fun e w' => e = .returned (.bool r) ∧ R w' := by
  cases c
  · simp only [Bool.false_eq_true, if_false] at hc
    have HC := Lib.hid hc; clear hc
    go_enter Try.func93, Try.ntmps93
    go_wp2_with fail
    refine HC.out.mono ?_; rintro e w' ⟨rfl, hr⟩
    have HR := Lib.hid hr; clear hr
    go_wp2
    go_ret
    exact ⟨rfl, HR.out⟩
  · simp only [if_true] at hc
    have HC := Lib.hid hc; clear hc
    go_enter Try.func93, Try.ntmps93
    go_wp2_with fail
    refine HC.out.mono ?_; rintro e w' ⟨rfl, hr⟩
    have HR := Lib.hid hr; clear hr
    go_wp2
    go_ret
    exact ⟨rfl, HR.out⟩
section
variable (w0 : World) (b g1 g2 : Nat) (PA : Option Addr) (n pc : Nat) (fr : Bool) (WA : Option Addr) (wc : Nat) (OA : Option Addr) (oc : Nat) (ins : Int) (p : List PNode) (outs : List Bool)
/-- What is told of begin. -/
def BeginOK (t : Tr) (k : Nat) : Prop := ∀ (wr : World) (s : StM), WSt w0 b g1 g2 PA n pc fr WA wc OA oc ins wr s →
  Calls Try.prog 66 #[.pointer (some ⟨b, 0, none⟩), I k] wr fun e w' => e = .returned (.bool (beginT (thereM ins) (wasM outs) t k s).1) ∧
      (WSt w0 b g1 g2 PA n pc fr WA wc OA oc ins w' (beginT (thereM ins) (wasM outs) t k s).2 ∧ Off g1 g2 wr w')
set_option maxRecDepth 100000 in
set_option maxHeartbeats 8000000 in
theorem wbegin_seq (hp : SlN w0 PA n p) (hn : n ≤ 14) (sg : Int) (ta tb : Tr) (k : Nat) (ht : TreeAt p k (.two ⟨5, sg⟩ ta tb)) (ok : (Tr.two ⟨5, sg⟩ ta tb).ok) (hsr : 0 ≤ sg ∧ sg ≤ 2)
    (ia : BeginOK w0 b g1 g2 PA n pc fr WA wc OA oc ins outs ta (k + 1)) (ib : BeginOK w0 b g1 g2 PA n pc fr WA wc OA oc ins outs tb (k + 1 + ta.size)) :
    BeginOK w0 b g1 g2 PA n pc fr WA wc OA oc ins outs (.two ⟨5, sg⟩ ta tb) k := by
  intro wr s h
  have hle := ht.le
  have hpl := hp.1
  have hkn : k < n := by simp [Tr.size] at hle; omega
  have hof := ht.of_two ok
  have htop := ht.top
  obtain ⟨pb, poff, y, rfl, d0, d1, -, hy⟩ := hp.next hkn
  have hyx : y = ⟨5, sg⟩ := by rw [htop] at hy; injection hy with hy; exact hy.symm
  subst hyx
  have c0 := h.c0
  have hbl := lt_of_cell c0
  have e0 := h.ext.keeps _ _ d0; have e1 := h.ext.keeps _ _ d1
  have hpl2 := lt_of_cell e0
  have hg1 : g1 < wr.heap.size := (h.W.lt g1 rfl).2
  have hg2 : g2 < wr.heap.size := (h.O.lt g2 rfl).2
  have HP := Lib.hid hp; have HOF := Lib.hid hof; have HS := Lib.hid h; have HG1 := Lib.hid hg1; have HG2 := Lib.hid hg2; have HSR := Lib.hid hsr
  have ca : ∀ (wr : World) (s : StM), WSt w0 b g1 g2 (some ⟨pb, poff, none⟩) n pc fr WA wc OA oc ins wr s → Calls Try.prog 66 #[.pointer (some ⟨b, 0, none⟩), .int .i64 ((k : Int) + 1)] wr fun e w' => e = .returned (.bool (beginT (thereM ins) (wasM outs) ta (k + 1) s).1) ∧
      (WSt w0 b g1 g2 (some ⟨pb, poff, none⟩) n pc fr WA wc OA oc ins w' (beginT (thereM ins) (wasM outs) ta (k + 1) s).2 ∧ Off g1 g2 wr w') := fun wr s h => by
    have := ia wr s h; rwa [show ((k + 1 : Nat) : Int) = (k : Int) + 1 from by omega] at this
  have cb : ∀ (wr : World) (s : StM), WSt w0 b g1 g2 (some ⟨pb, poff, none⟩) n pc fr WA wc OA oc ins wr s → Calls Try.prog 66 #[.pointer (some ⟨b, 0, none⟩), .int .i64 ((k : Int) + 1 + ta.size)] wr fun e w' => e = .returned (.bool (beginT (thereM ins) (wasM outs) tb (k + 1 + ta.size) s).1) ∧
      (WSt w0 b g1 g2 (some ⟨pb, poff, none⟩) n pc fr WA wc OA oc ins w' (beginT (thereM ins) (wasM outs) tb (k + 1 + ta.size) s).2 ∧ Off g1 g2 wr w') := fun wr s h => by
    have := ib wr s h; rwa [show ((k + 1 + ta.size : Nat) : Int) = (k : Int) + 1 + ta.size from by omega] at this
  have IA := Lib.hid ca; have IB := Lib.hid cb; clear ca cb
  generalize hM : beginT (thereM ins) (wasM outs) (.two ⟨5, sg⟩ ta tb) k s = M
  simp only [beginT, choiceM, Int.reduceEq, if_true, if_false] at hM
  clear hp hof h ht ok hle hpl htop hy d0 d1 ia ib hg1 hg2 hsr
  generalize hnx : (k : Int) + (Tr.two ⟨5, sg⟩ ta tb).size = beh at *
  clear hnx
  cases hr : (beginT (thereM ins) (wasM outs) ta (k + 1) s).1
  · rw [hr] at hM
    have HR := Lib.hid hr; have HM := Lib.hid hM; clear hr hM
    go_enter Try.func66, Try.ntmps66
    go_wp2_with fail
    refine (progOf_any _ n pc p k _ ((HP.out.keep HS.out.ext.keeps).keep (((Ext.refl wr).alloc _).alloc _).keeps) (by omega) hkn).mono ?_; rintro e w' ⟨rfl, rfl⟩; rw [HOF.out]
    go_wp2_with fail
    have hx4 : Ext wr ((((wr.alloc (.cells #[.pointer (some ⟨b, 0, none⟩)] 125)).alloc (.cells #[.int .i64 5, .int .i64 sg] 64)).alloc (.cells #[.int .i64 ((k : Int) + 1)] 3)).alloc (.cells #[.int .i64 ((k : Int) + 1 + ta.size)] 3)) := ((((Ext.refl wr).alloc _).alloc _).alloc _).alloc _
    have z0 : ((((wr.alloc (.cells #[.pointer (some ⟨b, 0, none⟩)] 125)).alloc (.cells #[.int .i64 5, .int .i64 sg] 64)).alloc (.cells #[.int .i64 ((k : Int) + 1)] 3)).alloc (.cells #[.int .i64 ((k : Int) + 1 + ta.size)] 3)).cell? ⟨wr.heap.size, 0, none⟩ = some (.pointer (some ⟨b, 0, none⟩)) := by go_simp
    have z1 : ((((wr.alloc (.cells #[.pointer (some ⟨b, 0, none⟩)] 125)).alloc (.cells #[.int .i64 5, .int .i64 sg] 64)).alloc (.cells #[.int .i64 ((k : Int) + 1)] 3)).alloc (.cells #[.int .i64 ((k : Int) + 1 + ta.size)] 3)).cell? ⟨wr.heap.size + 1, 1, none⟩ = some (.int .i64 sg) := by go_simp
    have z6 : ((((wr.alloc (.cells #[.pointer (some ⟨b, 0, none⟩)] 125)).alloc (.cells #[.int .i64 5, .int .i64 sg] 64)).alloc (.cells #[.int .i64 ((k : Int) + 1)] 3)).alloc (.cells #[.int .i64 ((k : Int) + 1 + ta.size)] 3)).cell? ⟨wr.heap.size + 1 + 1, 0, none⟩ = some (.int .i64 ((k : Int) + 1)) := by go_simp
    have z7 : ((((wr.alloc (.cells #[.pointer (some ⟨b, 0, none⟩)] 125)).alloc (.cells #[.int .i64 5, .int .i64 sg] 64)).alloc (.cells #[.int .i64 ((k : Int) + 1)] 3)).alloc (.cells #[.int .i64 ((k : Int) + 1 + ta.size)] 3)).cell? ⟨wr.heap.size + 1 + 1 + 1, 0, none⟩ = some (.int .i64 ((k : Int) + 1 + ta.size)) := by go_simp
    generalize ((((wr.alloc (.cells #[.pointer (some ⟨b, 0, none⟩)] 125)).alloc (.cells #[.int .i64 5, .int .i64 sg] 64)).alloc (.cells #[.int .i64 ((k : Int) + 1)] 3)).alloc (.cells #[.int .i64 ((k : Int) + 1 + ta.size)] 3)) = W4 at *
    have HS4 := Lib.hid (HS.out.more hx4); have HX4 := Lib.hid hx4; clear hx4
    have m1 := HG1.out; have m2 := HG2.out
    have off4 : ∀ w1 : World, Off g1 g2 W4 w1 → w1.cell? ⟨wr.heap.size, 0, none⟩ = some (.pointer (some ⟨b, 0, none⟩)) ∧ w1.cell? ⟨wr.heap.size + 1 + 1, 0, none⟩ = some (.int .i64 ((k : Int) + 1)) ∧ w1.cell? ⟨wr.heap.size + 1 + 1 + 1, 0, none⟩ = some (.int .i64 ((k : Int) + 1 + ta.size)) := fun w1 o =>
      ⟨o.cell z0 (by show wr.heap.size ≠ g1; omega) (by show wr.heap.size ≠ g2; omega), o.cell z6 (by show wr.heap.size + 1 + 1 ≠ g1; omega) (by show wr.heap.size + 1 + 1 ≠ g2; omega), o.cell z7 (by show wr.heap.size + 1 + 1 + 1 ≠ g1; omega) (by show wr.heap.size + 1 + 1 + 1 ≠ g2; omega)⟩
    have OFF4 := Lib.hid off4; clear off4 m1 m2
    refine (IA.out W4 s HS4.out).mono ?_; rintro e w1 ⟨rfl, hs1, o1⟩; rw [HR.out]
    have HS1 := Lib.hid hs1; have O1 := Lib.hid o1; clear hs1 o1
    go_wp2
    go_ret
    exact ⟨by rw [← HM.out]; rfl, by rw [← HM.out]; exact HS1.out, (Off.of_ext HX4.out).trans O1.out⟩
  · rw [hr] at hM
    have HR := Lib.hid hr; have HM := Lib.hid hM; clear hr hM
    go_enter Try.func66, Try.ntmps66
    go_wp2_with fail
    refine (progOf_any _ n pc p k _ ((HP.out.keep HS.out.ext.keeps).keep (((Ext.refl wr).alloc _).alloc _).keeps) (by omega) hkn).mono ?_; rintro e w' ⟨rfl, rfl⟩; rw [HOF.out]
    go_wp2_with fail
    have hx4 : Ext wr ((((wr.alloc (.cells #[.pointer (some ⟨b, 0, none⟩)] 125)).alloc (.cells #[.int .i64 5, .int .i64 sg] 64)).alloc (.cells #[.int .i64 ((k : Int) + 1)] 3)).alloc (.cells #[.int .i64 ((k : Int) + 1 + ta.size)] 3)) := ((((Ext.refl wr).alloc _).alloc _).alloc _).alloc _
    have z0 : ((((wr.alloc (.cells #[.pointer (some ⟨b, 0, none⟩)] 125)).alloc (.cells #[.int .i64 5, .int .i64 sg] 64)).alloc (.cells #[.int .i64 ((k : Int) + 1)] 3)).alloc (.cells #[.int .i64 ((k : Int) + 1 + ta.size)] 3)).cell? ⟨wr.heap.size, 0, none⟩ = some (.pointer (some ⟨b, 0, none⟩)) := by go_simp
    have z1 : ((((wr.alloc (.cells #[.pointer (some ⟨b, 0, none⟩)] 125)).alloc (.cells #[.int .i64 5, .int .i64 sg] 64)).alloc (.cells #[.int .i64 ((k : Int) + 1)] 3)).alloc (.cells #[.int .i64 ((k : Int) + 1 + ta.size)] 3)).cell? ⟨wr.heap.size + 1, 1, none⟩ = some (.int .i64 sg) := by go_simp
    have z6 : ((((wr.alloc (.cells #[.pointer (some ⟨b, 0, none⟩)] 125)).alloc (.cells #[.int .i64 5, .int .i64 sg] 64)).alloc (.cells #[.int .i64 ((k : Int) + 1)] 3)).alloc (.cells #[.int .i64 ((k : Int) + 1 + ta.size)] 3)).cell? ⟨wr.heap.size + 1 + 1, 0, none⟩ = some (.int .i64 ((k : Int) + 1)) := by go_simp
    have z7 : ((((wr.alloc (.cells #[.pointer (some ⟨b, 0, none⟩)] 125)).alloc (.cells #[.int .i64 5, .int .i64 sg] 64)).alloc (.cells #[.int .i64 ((k : Int) + 1)] 3)).alloc (.cells #[.int .i64 ((k : Int) + 1 + ta.size)] 3)).cell? ⟨wr.heap.size + 1 + 1 + 1, 0, none⟩ = some (.int .i64 ((k : Int) + 1 + ta.size)) := by go_simp
    generalize ((((wr.alloc (.cells #[.pointer (some ⟨b, 0, none⟩)] 125)).alloc (.cells #[.int .i64 5, .int .i64 sg] 64)).alloc (.cells #[.int .i64 ((k : Int) + 1)] 3)).alloc (.cells #[.int .i64 ((k : Int) + 1 + ta.size)] 3)) = W4 at *
    have HS4 := Lib.hid (HS.out.more hx4); have HX4 := Lib.hid hx4; clear hx4
    have m1 := HG1.out; have m2 := HG2.out
    have off4 : ∀ w1 : World, Off g1 g2 W4 w1 → w1.cell? ⟨wr.heap.size, 0, none⟩ = some (.pointer (some ⟨b, 0, none⟩)) ∧ w1.cell? ⟨wr.heap.size + 1 + 1, 0, none⟩ = some (.int .i64 ((k : Int) + 1)) ∧ w1.cell? ⟨wr.heap.size + 1 + 1 + 1, 0, none⟩ = some (.int .i64 ((k : Int) + 1 + ta.size)) := fun w1 o =>
      ⟨o.cell z0 (by show wr.heap.size ≠ g1; omega) (by show wr.heap.size ≠ g2; omega), o.cell z6 (by show wr.heap.size + 1 + 1 ≠ g1; omega) (by show wr.heap.size + 1 + 1 ≠ g2; omega), o.cell z7 (by show wr.heap.size + 1 + 1 + 1 ≠ g1; omega) (by show wr.heap.size + 1 + 1 + 1 ≠ g2; omega)⟩
    have OFF4 := Lib.hid off4; clear off4 m1 m2
    refine (IA.out W4 s HS4.out).mono ?_; rintro e w1 ⟨rfl, hs1, o1⟩; rw [HR.out]
    obtain ⟨y0, y6, y7⟩ := OFF4.out _ o1
    have HS1 := Lib.hid hs1; have O1 := Lib.hid o1; clear hs1 o1 z0 z1 z6 z7
    go_wp2_with fail
    refine (IB.out w1 _ HS1.out).mono ?_; rintro e w2 ⟨rfl, hs2, o2⟩
    have HS2 := Lib.hid hs2; have O2 := Lib.hid o2; clear hs2 o2
    go_wp2
    go_ret
    exact ⟨by rw [← HM.out]; rfl, by rw [← HM.out]; exact HS2.out, ((Off.of_ext HX4.out).trans O1.out).trans O2.out⟩
set_option maxRecDepth 100000 in
set_option maxHeartbeats 8000000 in
theorem wbegin_par (hp : SlN w0 PA n p) (hn : n ≤ 14) (sg : Int) (ta tb : Tr) (k : Nat) (ht : TreeAt p k (.two ⟨6, sg⟩ ta tb)) (ok : (Tr.two ⟨6, sg⟩ ta tb).ok) (hsr : 0 ≤ sg ∧ sg ≤ 2)
    (ia : BeginOK w0 b g1 g2 PA n pc fr WA wc OA oc ins outs ta (k + 1)) (ib : BeginOK w0 b g1 g2 PA n pc fr WA wc OA oc ins outs tb (k + 1 + ta.size)) :
    BeginOK w0 b g1 g2 PA n pc fr WA wc OA oc ins outs (.two ⟨6, sg⟩ ta tb) k := by
  intro wr s h
  have hle := ht.le
  have hpl := hp.1
  have hkn : k < n := by simp [Tr.size] at hle; omega
  have hof := ht.of_two ok
  have htop := ht.top
  obtain ⟨pb, poff, y, rfl, d0, d1, -, hy⟩ := hp.next hkn
  have hyx : y = ⟨6, sg⟩ := by rw [htop] at hy; injection hy with hy; exact hy.symm
  subst hyx
  have c0 := h.c0
  have hbl := lt_of_cell c0
  have e0 := h.ext.keeps _ _ d0; have e1 := h.ext.keeps _ _ d1
  have hpl2 := lt_of_cell e0
  have hg1 : g1 < wr.heap.size := (h.W.lt g1 rfl).2
  have hg2 : g2 < wr.heap.size := (h.O.lt g2 rfl).2
  have HP := Lib.hid hp; have HOF := Lib.hid hof; have HS := Lib.hid h; have HG1 := Lib.hid hg1; have HG2 := Lib.hid hg2; have HSR := Lib.hid hsr
  have ca : ∀ (wr : World) (s : StM), WSt w0 b g1 g2 (some ⟨pb, poff, none⟩) n pc fr WA wc OA oc ins wr s → Calls Try.prog 66 #[.pointer (some ⟨b, 0, none⟩), .int .i64 ((k : Int) + 1)] wr fun e w' => e = .returned (.bool (beginT (thereM ins) (wasM outs) ta (k + 1) s).1) ∧
      (WSt w0 b g1 g2 (some ⟨pb, poff, none⟩) n pc fr WA wc OA oc ins w' (beginT (thereM ins) (wasM outs) ta (k + 1) s).2 ∧ Off g1 g2 wr w') := fun wr s h => by
    have := ia wr s h; rwa [show ((k + 1 : Nat) : Int) = (k : Int) + 1 from by omega] at this
  have cb : ∀ (wr : World) (s : StM), WSt w0 b g1 g2 (some ⟨pb, poff, none⟩) n pc fr WA wc OA oc ins wr s → Calls Try.prog 66 #[.pointer (some ⟨b, 0, none⟩), .int .i64 ((k : Int) + 1 + ta.size)] wr fun e w' => e = .returned (.bool (beginT (thereM ins) (wasM outs) tb (k + 1 + ta.size) s).1) ∧
      (WSt w0 b g1 g2 (some ⟨pb, poff, none⟩) n pc fr WA wc OA oc ins w' (beginT (thereM ins) (wasM outs) tb (k + 1 + ta.size) s).2 ∧ Off g1 g2 wr w') := fun wr s h => by
    have := ib wr s h; rwa [show ((k + 1 + ta.size : Nat) : Int) = (k : Int) + 1 + ta.size from by omega] at this
  have IA := Lib.hid ca; have IB := Lib.hid cb; clear ca cb
  generalize hM : beginT (thereM ins) (wasM outs) (.two ⟨6, sg⟩ ta tb) k s = M
  simp only [beginT, choiceM, Int.reduceEq, if_true, if_false] at hM
  clear hp hof h ht ok hle hpl htop hy d0 d1 ia ib hg1 hg2 hsr
  generalize hnx : (k : Int) + (Tr.two ⟨6, sg⟩ ta tb).size = beh at *
  clear hnx
  have HM := Lib.hid hM; clear hM
  go_enter Try.func66, Try.ntmps66
  go_wp2_with fail
  refine (progOf_any _ n pc p k _ ((HP.out.keep HS.out.ext.keeps).keep (((Ext.refl wr).alloc _).alloc _).keeps) (by omega) hkn).mono ?_; rintro e w' ⟨rfl, rfl⟩; rw [HOF.out]
  go_wp2_with fail
  have hx4 : Ext wr ((((wr.alloc (.cells #[.pointer (some ⟨b, 0, none⟩)] 125)).alloc (.cells #[.int .i64 6, .int .i64 sg] 64)).alloc (.cells #[.int .i64 ((k : Int) + 1)] 3)).alloc (.cells #[.int .i64 ((k : Int) + 1 + ta.size)] 3)) := ((((Ext.refl wr).alloc _).alloc _).alloc _).alloc _
  have z0 : ((((wr.alloc (.cells #[.pointer (some ⟨b, 0, none⟩)] 125)).alloc (.cells #[.int .i64 6, .int .i64 sg] 64)).alloc (.cells #[.int .i64 ((k : Int) + 1)] 3)).alloc (.cells #[.int .i64 ((k : Int) + 1 + ta.size)] 3)).cell? ⟨wr.heap.size, 0, none⟩ = some (.pointer (some ⟨b, 0, none⟩)) := by go_simp
  have z1 : ((((wr.alloc (.cells #[.pointer (some ⟨b, 0, none⟩)] 125)).alloc (.cells #[.int .i64 6, .int .i64 sg] 64)).alloc (.cells #[.int .i64 ((k : Int) + 1)] 3)).alloc (.cells #[.int .i64 ((k : Int) + 1 + ta.size)] 3)).cell? ⟨wr.heap.size + 1, 1, none⟩ = some (.int .i64 sg) := by go_simp
  have z6 : ((((wr.alloc (.cells #[.pointer (some ⟨b, 0, none⟩)] 125)).alloc (.cells #[.int .i64 6, .int .i64 sg] 64)).alloc (.cells #[.int .i64 ((k : Int) + 1)] 3)).alloc (.cells #[.int .i64 ((k : Int) + 1 + ta.size)] 3)).cell? ⟨wr.heap.size + 1 + 1, 0, none⟩ = some (.int .i64 ((k : Int) + 1)) := by go_simp
  have z7 : ((((wr.alloc (.cells #[.pointer (some ⟨b, 0, none⟩)] 125)).alloc (.cells #[.int .i64 6, .int .i64 sg] 64)).alloc (.cells #[.int .i64 ((k : Int) + 1)] 3)).alloc (.cells #[.int .i64 ((k : Int) + 1 + ta.size)] 3)).cell? ⟨wr.heap.size + 1 + 1 + 1, 0, none⟩ = some (.int .i64 ((k : Int) + 1 + ta.size)) := by go_simp
  generalize ((((wr.alloc (.cells #[.pointer (some ⟨b, 0, none⟩)] 125)).alloc (.cells #[.int .i64 6, .int .i64 sg] 64)).alloc (.cells #[.int .i64 ((k : Int) + 1)] 3)).alloc (.cells #[.int .i64 ((k : Int) + 1 + ta.size)] 3)) = W4 at *
  have HS4 := Lib.hid (HS.out.more hx4); have HX4 := Lib.hid hx4; clear hx4
  have m1 := HG1.out; have m2 := HG2.out
  have off4 : ∀ w1 : World, Off g1 g2 W4 w1 → w1.cell? ⟨wr.heap.size, 0, none⟩ = some (.pointer (some ⟨b, 0, none⟩)) ∧ w1.cell? ⟨wr.heap.size + 1 + 1, 0, none⟩ = some (.int .i64 ((k : Int) + 1)) ∧ w1.cell? ⟨wr.heap.size + 1 + 1 + 1, 0, none⟩ = some (.int .i64 ((k : Int) + 1 + ta.size)) := fun w1 o =>
    ⟨o.cell z0 (by show wr.heap.size ≠ g1; omega) (by show wr.heap.size ≠ g2; omega), o.cell z6 (by show wr.heap.size + 1 + 1 ≠ g1; omega) (by show wr.heap.size + 1 + 1 ≠ g2; omega), o.cell z7 (by show wr.heap.size + 1 + 1 + 1 ≠ g1; omega) (by show wr.heap.size + 1 + 1 + 1 ≠ g2; omega)⟩
  have OFF4 := Lib.hid off4; clear off4 m1 m2
  go_region_held3 (fun w' => w'.cell? ⟨wr.heap.size, 0, none⟩ = some (.pointer (some ⟨b, 0, none⟩)) ∧ w'.cell? ⟨wr.heap.size + 1 + 1, 0, none⟩ = some (.int .i64 ((k : Int) + 1)) ∧ w'.cell? ⟨wr.heap.size + 1 + 1 + 1, 0, none⟩ = some (.int .i64 ((k : Int) + 1 + ta.size)))
    (first | exact ⟨y0, y6, y7⟩ | go_keep)
    (first | (go_at_call 66; (with_reducible refine (IA.out _ s (HS4.out.more ((Ext.refl W4).drew))).mono ?_); rintro e w1 ⟨rfl, hs1, o1⟩; obtain ⟨y0, y6, y7⟩ := OFF4.out _ ((Off.of_ext ((Ext.refl W4).drew)).trans o1); have HS1 := Lib.hid hs1; have O1 := Lib.hid o1; clear hs1 o1) | (go_at_call 66; (with_reducible refine (IB.out w1 _ HS1.out).mono ?_); rintro e w2 ⟨rfl, hs2, o2⟩; obtain ⟨y0, y6, y7⟩ := OFF4.out _ (((Off.of_ext ((Ext.refl W4).drew)).trans O1.out).trans o2); have HS2 := Lib.hid hs2; have O2 := Lib.hid o2; clear hs2 o2))
  go_wp2
  all_goals
    go_ret
    exact ⟨by rw [← HM.out]; simp_all, by rw [← HM.out]; exact HS2.out, ((Off.of_ext HX4.out).trans ((Off.of_ext ((Ext.refl W4).drew)).trans O1.out)).trans O2.out⟩
set_option maxRecDepth 100000 in
set_option maxHeartbeats 8000000 in
theorem wbegin_if (hp : SlN w0 PA n p) (h0 : 0 ≤ ins) (h8 : ins < 8) (hn : n ≤ 14) (sg : Int) (ta tb : Tr) (k : Nat) (ht : TreeAt p k (.two ⟨7, sg⟩ ta tb)) (ok : (Tr.two ⟨7, sg⟩ ta tb).ok) (hsr : 0 ≤ sg ∧ sg ≤ 2)
    (ia : BeginOK w0 b g1 g2 PA n pc fr WA wc OA oc ins outs ta (k + 1)) (ib : BeginOK w0 b g1 g2 PA n pc fr WA wc OA oc ins outs tb (k + 1 + ta.size)) :
    BeginOK w0 b g1 g2 PA n pc fr WA wc OA oc ins outs (.two ⟨7, sg⟩ ta tb) k := by
  intro wr s h
  have hle := ht.le
  have hpl := hp.1
  have hkn : k < n := by simp [Tr.size] at hle; omega
  have hof := ht.of_two ok
  have htop := ht.top
  obtain ⟨pb, poff, y, rfl, d0, d1, -, hy⟩ := hp.next hkn
  have hyx : y = ⟨7, sg⟩ := by rw [htop] at hy; injection hy with hy; exact hy.symm
  subst hyx
  have c0 := h.c0
  have hbl := lt_of_cell c0
  have e0 := h.ext.keeps _ _ d0; have e1 := h.ext.keeps _ _ d1
  have hpl2 := lt_of_cell e0
  have hg1 : g1 < wr.heap.size := (h.W.lt g1 rfl).2
  have hg2 : g2 < wr.heap.size := (h.O.lt g2 rfl).2
  have HP := Lib.hid hp; have HOF := Lib.hid hof; have HS := Lib.hid h; have HG1 := Lib.hid hg1; have HG2 := Lib.hid hg2; have HSR := Lib.hid hsr
  have ca : ∀ (wr : World) (s : StM), WSt w0 b g1 g2 (some ⟨pb, poff, none⟩) n pc fr WA wc OA oc ins wr s → Calls Try.prog 66 #[.pointer (some ⟨b, 0, none⟩), .int .i64 ((k : Int) + 1)] wr fun e w' => e = .returned (.bool (beginT (thereM ins) (wasM outs) ta (k + 1) s).1) ∧
      (WSt w0 b g1 g2 (some ⟨pb, poff, none⟩) n pc fr WA wc OA oc ins w' (beginT (thereM ins) (wasM outs) ta (k + 1) s).2 ∧ Off g1 g2 wr w') := fun wr s h => by
    have := ia wr s h; rwa [show ((k + 1 : Nat) : Int) = (k : Int) + 1 from by omega] at this
  have cb : ∀ (wr : World) (s : StM), WSt w0 b g1 g2 (some ⟨pb, poff, none⟩) n pc fr WA wc OA oc ins wr s → Calls Try.prog 66 #[.pointer (some ⟨b, 0, none⟩), .int .i64 ((k : Int) + 1 + ta.size)] wr fun e w' => e = .returned (.bool (beginT (thereM ins) (wasM outs) tb (k + 1 + ta.size) s).1) ∧
      (WSt w0 b g1 g2 (some ⟨pb, poff, none⟩) n pc fr WA wc OA oc ins w' (beginT (thereM ins) (wasM outs) tb (k + 1 + ta.size) s).2 ∧ Off g1 g2 wr w') := fun wr s h => by
    have := ib wr s h; rwa [show ((k + 1 + ta.size : Nat) : Int) = (k : Int) + 1 + ta.size from by omega] at this
  have IA := Lib.hid ca; have IB := Lib.hid cb; clear ca cb
  generalize hM : beginT (thereM ins) (wasM outs) (.two ⟨7, sg⟩ ta tb) k s = M
  simp only [beginT, choiceM, Int.reduceEq, if_true, if_false] at hM
  clear hp hof h ht ok hle hpl htop hy d0 d1 ia ib hg1 hg2 hsr
  generalize hnx : (k : Int) + (Tr.two ⟨7, sg⟩ ta tb).size = beh at *
  clear hnx
  cases hr : thereM ins sg
  · rw [hr] at hM
    simp only [Bool.false_eq_true, if_false, if_true] at hM
    have HR := Lib.hid hr; have HM := Lib.hid hM; clear hr hM
    go_enter Try.func66, Try.ntmps66
    go_wp2_with fail
    refine (progOf_any _ n pc p k _ ((HP.out.keep HS.out.ext.keeps).keep (((Ext.refl wr).alloc _).alloc _).keeps) (by omega) hkn).mono ?_; rintro e w' ⟨rfl, rfl⟩; rw [HOF.out]
    go_wp2_with fail
    have hx4 : Ext wr ((((wr.alloc (.cells #[.pointer (some ⟨b, 0, none⟩)] 125)).alloc (.cells #[.int .i64 7, .int .i64 sg] 64)).alloc (.cells #[.int .i64 ((k : Int) + 1)] 3)).alloc (.cells #[.int .i64 ((k : Int) + 1 + ta.size)] 3)) := ((((Ext.refl wr).alloc _).alloc _).alloc _).alloc _
    have z0 : ((((wr.alloc (.cells #[.pointer (some ⟨b, 0, none⟩)] 125)).alloc (.cells #[.int .i64 7, .int .i64 sg] 64)).alloc (.cells #[.int .i64 ((k : Int) + 1)] 3)).alloc (.cells #[.int .i64 ((k : Int) + 1 + ta.size)] 3)).cell? ⟨wr.heap.size, 0, none⟩ = some (.pointer (some ⟨b, 0, none⟩)) := by go_simp
    have z1 : ((((wr.alloc (.cells #[.pointer (some ⟨b, 0, none⟩)] 125)).alloc (.cells #[.int .i64 7, .int .i64 sg] 64)).alloc (.cells #[.int .i64 ((k : Int) + 1)] 3)).alloc (.cells #[.int .i64 ((k : Int) + 1 + ta.size)] 3)).cell? ⟨wr.heap.size + 1, 1, none⟩ = some (.int .i64 sg) := by go_simp
    have z6 : ((((wr.alloc (.cells #[.pointer (some ⟨b, 0, none⟩)] 125)).alloc (.cells #[.int .i64 7, .int .i64 sg] 64)).alloc (.cells #[.int .i64 ((k : Int) + 1)] 3)).alloc (.cells #[.int .i64 ((k : Int) + 1 + ta.size)] 3)).cell? ⟨wr.heap.size + 1 + 1, 0, none⟩ = some (.int .i64 ((k : Int) + 1)) := by go_simp
    have z7 : ((((wr.alloc (.cells #[.pointer (some ⟨b, 0, none⟩)] 125)).alloc (.cells #[.int .i64 7, .int .i64 sg] 64)).alloc (.cells #[.int .i64 ((k : Int) + 1)] 3)).alloc (.cells #[.int .i64 ((k : Int) + 1 + ta.size)] 3)).cell? ⟨wr.heap.size + 1 + 1 + 1, 0, none⟩ = some (.int .i64 ((k : Int) + 1 + ta.size)) := by go_simp
    generalize ((((wr.alloc (.cells #[.pointer (some ⟨b, 0, none⟩)] 125)).alloc (.cells #[.int .i64 7, .int .i64 sg] 64)).alloc (.cells #[.int .i64 ((k : Int) + 1)] 3)).alloc (.cells #[.int .i64 ((k : Int) + 1 + ta.size)] 3)) = W4 at *
    have HS4 := Lib.hid (HS.out.more hx4); have HX4 := Lib.hid hx4; clear hx4
    have m1 := HG1.out; have m2 := HG2.out
    have off4 : ∀ w1 : World, Off g1 g2 W4 w1 → w1.cell? ⟨wr.heap.size, 0, none⟩ = some (.pointer (some ⟨b, 0, none⟩)) ∧ w1.cell? ⟨wr.heap.size + 1 + 1, 0, none⟩ = some (.int .i64 ((k : Int) + 1)) ∧ w1.cell? ⟨wr.heap.size + 1 + 1 + 1, 0, none⟩ = some (.int .i64 ((k : Int) + 1 + ta.size)) := fun w1 o =>
      ⟨o.cell z0 (by show wr.heap.size ≠ g1; omega) (by show wr.heap.size ≠ g2; omega), o.cell z6 (by show wr.heap.size + 1 + 1 ≠ g1; omega) (by show wr.heap.size + 1 + 1 ≠ g2; omega), o.cell z7 (by show wr.heap.size + 1 + 1 + 1 ≠ g1; omega) (by show wr.heap.size + 1 + 1 + 1 ≠ g2; omega)⟩
    have OFF4 := Lib.hid off4; clear off4 m1 m2
    refine (wthere_any w0 b g1 g2 _ n pc fr WA wc OA oc ins W4 s HS4.out h0 h8 sg HSR.out.1 HSR.out.2).mono ?_; rintro e w1 ⟨rfl, rfl⟩; rw [HR.out]
    go_wp2_with fail
    refine (wchoice_any b wr.heap.size _ _ false W4 z0 z6 z7 _ _ (IB.out W4 s HS4.out)).mono ?_; rintro e w1 ⟨rfl, hs1, o1⟩
    have HS1 := Lib.hid hs1; have O1 := Lib.hid o1; clear hs1 o1
    go_wp2
    go_ret
    exact ⟨by rw [← HM.out]; rfl, by rw [← HM.out]; exact HS1.out, (Off.of_ext HX4.out).trans O1.out⟩
  · rw [hr] at hM
    simp only [Bool.false_eq_true, if_false, if_true] at hM
    have HR := Lib.hid hr; have HM := Lib.hid hM; clear hr hM
    go_enter Try.func66, Try.ntmps66
    go_wp2_with fail
    refine (progOf_any _ n pc p k _ ((HP.out.keep HS.out.ext.keeps).keep (((Ext.refl wr).alloc _).alloc _).keeps) (by omega) hkn).mono ?_; rintro e w' ⟨rfl, rfl⟩; rw [HOF.out]
    go_wp2_with fail
    have hx4 : Ext wr ((((wr.alloc (.cells #[.pointer (some ⟨b, 0, none⟩)] 125)).alloc (.cells #[.int .i64 7, .int .i64 sg] 64)).alloc (.cells #[.int .i64 ((k : Int) + 1)] 3)).alloc (.cells #[.int .i64 ((k : Int) + 1 + ta.size)] 3)) := ((((Ext.refl wr).alloc _).alloc _).alloc _).alloc _
    have z0 : ((((wr.alloc (.cells #[.pointer (some ⟨b, 0, none⟩)] 125)).alloc (.cells #[.int .i64 7, .int .i64 sg] 64)).alloc (.cells #[.int .i64 ((k : Int) + 1)] 3)).alloc (.cells #[.int .i64 ((k : Int) + 1 + ta.size)] 3)).cell? ⟨wr.heap.size, 0, none⟩ = some (.pointer (some ⟨b, 0, none⟩)) := by go_simp
    have z1 : ((((wr.alloc (.cells #[.pointer (some ⟨b, 0, none⟩)] 125)).alloc (.cells #[.int .i64 7, .int .i64 sg] 64)).alloc (.cells #[.int .i64 ((k : Int) + 1)] 3)).alloc (.cells #[.int .i64 ((k : Int) + 1 + ta.size)] 3)).cell? ⟨wr.heap.size + 1, 1, none⟩ = some (.int .i64 sg) := by go_simp
    have z6 : ((((wr.alloc (.cells #[.pointer (some ⟨b, 0, none⟩)] 125)).alloc (.cells #[.int .i64 7, .int .i64 sg] 64)).alloc (.cells #[.int .i64 ((k : Int) + 1)] 3)).alloc (.cells #[.int .i64 ((k : Int) + 1 + ta.size)] 3)).cell? ⟨wr.heap.size + 1 + 1, 0, none⟩ = some (.int .i64 ((k : Int) + 1)) := by go_simp
    have z7 : ((((wr.alloc (.cells #[.pointer (some ⟨b, 0, none⟩)] 125)).alloc (.cells #[.int .i64 7, .int .i64 sg] 64)).alloc (.cells #[.int .i64 ((k : Int) + 1)] 3)).alloc (.cells #[.int .i64 ((k : Int) + 1 + ta.size)] 3)).cell? ⟨wr.heap.size + 1 + 1 + 1, 0, none⟩ = some (.int .i64 ((k : Int) + 1 + ta.size)) := by go_simp
    generalize ((((wr.alloc (.cells #[.pointer (some ⟨b, 0, none⟩)] 125)).alloc (.cells #[.int .i64 7, .int .i64 sg] 64)).alloc (.cells #[.int .i64 ((k : Int) + 1)] 3)).alloc (.cells #[.int .i64 ((k : Int) + 1 + ta.size)] 3)) = W4 at *
    have HS4 := Lib.hid (HS.out.more hx4); have HX4 := Lib.hid hx4; clear hx4
    have m1 := HG1.out; have m2 := HG2.out
    have off4 : ∀ w1 : World, Off g1 g2 W4 w1 → w1.cell? ⟨wr.heap.size, 0, none⟩ = some (.pointer (some ⟨b, 0, none⟩)) ∧ w1.cell? ⟨wr.heap.size + 1 + 1, 0, none⟩ = some (.int .i64 ((k : Int) + 1)) ∧ w1.cell? ⟨wr.heap.size + 1 + 1 + 1, 0, none⟩ = some (.int .i64 ((k : Int) + 1 + ta.size)) := fun w1 o =>
      ⟨o.cell z0 (by show wr.heap.size ≠ g1; omega) (by show wr.heap.size ≠ g2; omega), o.cell z6 (by show wr.heap.size + 1 + 1 ≠ g1; omega) (by show wr.heap.size + 1 + 1 ≠ g2; omega), o.cell z7 (by show wr.heap.size + 1 + 1 + 1 ≠ g1; omega) (by show wr.heap.size + 1 + 1 + 1 ≠ g2; omega)⟩
    have OFF4 := Lib.hid off4; clear off4 m1 m2
    refine (wthere_any w0 b g1 g2 _ n pc fr WA wc OA oc ins W4 s HS4.out h0 h8 sg HSR.out.1 HSR.out.2).mono ?_; rintro e w1 ⟨rfl, rfl⟩; rw [HR.out]
    go_wp2_with fail
    refine (wchoice_any b wr.heap.size _ _ true W4 z0 z6 z7 _ _ (IA.out W4 s HS4.out)).mono ?_; rintro e w1 ⟨rfl, hs1, o1⟩
    have HS1 := Lib.hid hs1; have O1 := Lib.hid o1; clear hs1 o1
    go_wp2
    go_ret
    exact ⟨by rw [← HM.out]; rfl, by rw [← HM.out]; exact HS1.out, (Off.of_ext HX4.out).trans O1.out⟩
set_option maxRecDepth 100000 in
set_option maxHeartbeats 8000000 in
theorem wbegin_was (hp : SlN w0 PA n p) (hO : Sl w0 OA 3 (outs.map Bv)) (hn : n ≤ 14) (sg : Int) (ta tb : Tr) (k : Nat) (ht : TreeAt p k (.two ⟨8, sg⟩ ta tb)) (ok : (Tr.two ⟨8, sg⟩ ta tb).ok) (hsr : 0 ≤ sg ∧ sg ≤ 2)
    (ia : BeginOK w0 b g1 g2 PA n pc fr WA wc OA oc ins outs ta (k + 1)) (ib : BeginOK w0 b g1 g2 PA n pc fr WA wc OA oc ins outs tb (k + 1 + ta.size)) :
    BeginOK w0 b g1 g2 PA n pc fr WA wc OA oc ins outs (.two ⟨8, sg⟩ ta tb) k := by
  intro wr s h
  have hle := ht.le
  have hpl := hp.1
  have hkn : k < n := by simp [Tr.size] at hle; omega
  have hof := ht.of_two ok
  have htop := ht.top
  obtain ⟨pb, poff, y, rfl, d0, d1, -, hy⟩ := hp.next hkn
  have hyx : y = ⟨8, sg⟩ := by rw [htop] at hy; injection hy with hy; exact hy.symm
  subst hyx
  have c0 := h.c0
  have hbl := lt_of_cell c0
  have e0 := h.ext.keeps _ _ d0; have e1 := h.ext.keeps _ _ d1
  have hpl2 := lt_of_cell e0
  have hg1 : g1 < wr.heap.size := (h.W.lt g1 rfl).2
  have hg2 : g2 < wr.heap.size := (h.O.lt g2 rfl).2
  have HP := Lib.hid hp; have HOF := Lib.hid hof; have HS := Lib.hid h; have HG1 := Lib.hid hg1; have HG2 := Lib.hid hg2; have HSR := Lib.hid hsr
  have ca : ∀ (wr : World) (s : StM), WSt w0 b g1 g2 (some ⟨pb, poff, none⟩) n pc fr WA wc OA oc ins wr s → Calls Try.prog 66 #[.pointer (some ⟨b, 0, none⟩), .int .i64 ((k : Int) + 1)] wr fun e w' => e = .returned (.bool (beginT (thereM ins) (wasM outs) ta (k + 1) s).1) ∧
      (WSt w0 b g1 g2 (some ⟨pb, poff, none⟩) n pc fr WA wc OA oc ins w' (beginT (thereM ins) (wasM outs) ta (k + 1) s).2 ∧ Off g1 g2 wr w') := fun wr s h => by
    have := ia wr s h; rwa [show ((k + 1 : Nat) : Int) = (k : Int) + 1 from by omega] at this
  have cb : ∀ (wr : World) (s : StM), WSt w0 b g1 g2 (some ⟨pb, poff, none⟩) n pc fr WA wc OA oc ins wr s → Calls Try.prog 66 #[.pointer (some ⟨b, 0, none⟩), .int .i64 ((k : Int) + 1 + ta.size)] wr fun e w' => e = .returned (.bool (beginT (thereM ins) (wasM outs) tb (k + 1 + ta.size) s).1) ∧
      (WSt w0 b g1 g2 (some ⟨pb, poff, none⟩) n pc fr WA wc OA oc ins w' (beginT (thereM ins) (wasM outs) tb (k + 1 + ta.size) s).2 ∧ Off g1 g2 wr w') := fun wr s h => by
    have := ib wr s h; rwa [show ((k + 1 + ta.size : Nat) : Int) = (k : Int) + 1 + ta.size from by omega] at this
  have IA := Lib.hid ca; have IB := Lib.hid cb; clear ca cb
  generalize hM : beginT (thereM ins) (wasM outs) (.two ⟨8, sg⟩ ta tb) k s = M
  simp only [beginT, choiceM, Int.reduceEq, if_true, if_false] at hM
  clear hp hof h ht ok hle hpl htop hy d0 d1 ia ib hg1 hg2 hsr
  generalize hnx : (k : Int) + (Tr.two ⟨8, sg⟩ ta tb).size = beh at *
  clear hnx
  have hOl := hO.len
  obtain ⟨sn, rfl⟩ := Int.eq_ofNat_of_zero_le HSR.out.1
  have hsn : sn < 3 := by have := HSR.out.2; omega
  obtain ⟨ob, ooff, u, rfl, hcu0, hu⟩ := hO.at_ hsn
  have hws : wasM outs (sn : Int) = u := by simp [wasM, hu]
  have HCU := Lib.hid hcu0
  have hq0 : (0 : Int) ≤ (sn : Int) := by omega
  have hq3 : (sn : Int) < 3 := by omega
  clear hO hOl hcu0 hu
  rw [hws] at hM
  clear hws
  cases u
  · simp only [Bool.false_eq_true, if_false, if_true] at hM
    have HM := Lib.hid hM; clear hM
    go_enter Try.func66, Try.ntmps66
    go_wp2_with fail
    refine (progOf_any _ n pc p k _ ((HP.out.keep HS.out.ext.keeps).keep (((Ext.refl wr).alloc _).alloc _).keeps) (by omega) hkn).mono ?_; rintro e w' ⟨rfl, rfl⟩; rw [HOF.out]
    go_wp2_with fail
    have hx4 : Ext wr ((((wr.alloc (.cells #[.pointer (some ⟨b, 0, none⟩)] 125)).alloc (.cells #[.int .i64 8, .int .i64 (sn : Int)] 64)).alloc (.cells #[.int .i64 ((k : Int) + 1)] 3)).alloc (.cells #[.int .i64 ((k : Int) + 1 + ta.size)] 3)) := ((((Ext.refl wr).alloc _).alloc _).alloc _).alloc _
    have z0 : ((((wr.alloc (.cells #[.pointer (some ⟨b, 0, none⟩)] 125)).alloc (.cells #[.int .i64 8, .int .i64 (sn : Int)] 64)).alloc (.cells #[.int .i64 ((k : Int) + 1)] 3)).alloc (.cells #[.int .i64 ((k : Int) + 1 + ta.size)] 3)).cell? ⟨wr.heap.size, 0, none⟩ = some (.pointer (some ⟨b, 0, none⟩)) := by go_simp
    have z1 : ((((wr.alloc (.cells #[.pointer (some ⟨b, 0, none⟩)] 125)).alloc (.cells #[.int .i64 8, .int .i64 (sn : Int)] 64)).alloc (.cells #[.int .i64 ((k : Int) + 1)] 3)).alloc (.cells #[.int .i64 ((k : Int) + 1 + ta.size)] 3)).cell? ⟨wr.heap.size + 1, 1, none⟩ = some (.int .i64 (sn : Int)) := by go_simp
    have z6 : ((((wr.alloc (.cells #[.pointer (some ⟨b, 0, none⟩)] 125)).alloc (.cells #[.int .i64 8, .int .i64 (sn : Int)] 64)).alloc (.cells #[.int .i64 ((k : Int) + 1)] 3)).alloc (.cells #[.int .i64 ((k : Int) + 1 + ta.size)] 3)).cell? ⟨wr.heap.size + 1 + 1, 0, none⟩ = some (.int .i64 ((k : Int) + 1)) := by go_simp
    have z7 : ((((wr.alloc (.cells #[.pointer (some ⟨b, 0, none⟩)] 125)).alloc (.cells #[.int .i64 8, .int .i64 (sn : Int)] 64)).alloc (.cells #[.int .i64 ((k : Int) + 1)] 3)).alloc (.cells #[.int .i64 ((k : Int) + 1 + ta.size)] 3)).cell? ⟨wr.heap.size + 1 + 1 + 1, 0, none⟩ = some (.int .i64 ((k : Int) + 1 + ta.size)) := by go_simp
    generalize ((((wr.alloc (.cells #[.pointer (some ⟨b, 0, none⟩)] 125)).alloc (.cells #[.int .i64 8, .int .i64 (sn : Int)] 64)).alloc (.cells #[.int .i64 ((k : Int) + 1)] 3)).alloc (.cells #[.int .i64 ((k : Int) + 1 + ta.size)] 3)) = W4 at *
    have HS4 := Lib.hid (HS.out.more hx4); have HX4 := Lib.hid hx4; clear hx4
    have m1 := HG1.out; have m2 := HG2.out
    have off4 : ∀ w1 : World, Off g1 g2 W4 w1 → w1.cell? ⟨wr.heap.size, 0, none⟩ = some (.pointer (some ⟨b, 0, none⟩)) ∧ w1.cell? ⟨wr.heap.size + 1 + 1, 0, none⟩ = some (.int .i64 ((k : Int) + 1)) ∧ w1.cell? ⟨wr.heap.size + 1 + 1 + 1, 0, none⟩ = some (.int .i64 ((k : Int) + 1 + ta.size)) := fun w1 o =>
      ⟨o.cell z0 (by show wr.heap.size ≠ g1; omega) (by show wr.heap.size ≠ g2; omega), o.cell z6 (by show wr.heap.size + 1 + 1 ≠ g1; omega) (by show wr.heap.size + 1 + 1 ≠ g2; omega), o.cell z7 (by show wr.heap.size + 1 + 1 + 1 ≠ g1; omega) (by show wr.heap.size + 1 + 1 + 1 ≠ g2; omega)⟩
    have OFF4 := Lib.hid off4; clear off4 m1 m2
    have y3 := HS4.out.c3
    have yo := HS4.out.ext.keeps _ _ HCU.out
    go_still_tail 10, (by kernel_rfl)
    change wpList _ _ _ _ _ W4.drew
    go_wp2_with fail
    refine (wchoice_any b wr.heap.size _ _ false W4.drew z0 z6 z7 _ _ (IB.out W4.drew s (HS4.out.more ((Ext.refl W4).drew)))).mono ?_; rintro e w1 ⟨rfl, hs1, o1⟩
    have HS1 := Lib.hid hs1; have O1 := Lib.hid o1; clear hs1 o1
    go_wp2
    go_ret
    exact ⟨by rw [← HM.out]; rfl, by rw [← HM.out]; exact HS1.out, (Off.of_ext (HX4.out.trans ((Ext.refl W4).drew))).trans O1.out⟩
  · simp only [Bool.false_eq_true, if_false, if_true] at hM
    have HM := Lib.hid hM; clear hM
    go_enter Try.func66, Try.ntmps66
    go_wp2_with fail
    refine (progOf_any _ n pc p k _ ((HP.out.keep HS.out.ext.keeps).keep (((Ext.refl wr).alloc _).alloc _).keeps) (by omega) hkn).mono ?_; rintro e w' ⟨rfl, rfl⟩; rw [HOF.out]
    go_wp2_with fail
    have hx4 : Ext wr ((((wr.alloc (.cells #[.pointer (some ⟨b, 0, none⟩)] 125)).alloc (.cells #[.int .i64 8, .int .i64 (sn : Int)] 64)).alloc (.cells #[.int .i64 ((k : Int) + 1)] 3)).alloc (.cells #[.int .i64 ((k : Int) + 1 + ta.size)] 3)) := ((((Ext.refl wr).alloc _).alloc _).alloc _).alloc _
    have z0 : ((((wr.alloc (.cells #[.pointer (some ⟨b, 0, none⟩)] 125)).alloc (.cells #[.int .i64 8, .int .i64 (sn : Int)] 64)).alloc (.cells #[.int .i64 ((k : Int) + 1)] 3)).alloc (.cells #[.int .i64 ((k : Int) + 1 + ta.size)] 3)).cell? ⟨wr.heap.size, 0, none⟩ = some (.pointer (some ⟨b, 0, none⟩)) := by go_simp
    have z1 : ((((wr.alloc (.cells #[.pointer (some ⟨b, 0, none⟩)] 125)).alloc (.cells #[.int .i64 8, .int .i64 (sn : Int)] 64)).alloc (.cells #[.int .i64 ((k : Int) + 1)] 3)).alloc (.cells #[.int .i64 ((k : Int) + 1 + ta.size)] 3)).cell? ⟨wr.heap.size + 1, 1, none⟩ = some (.int .i64 (sn : Int)) := by go_simp
    have z6 : ((((wr.alloc (.cells #[.pointer (some ⟨b, 0, none⟩)] 125)).alloc (.cells #[.int .i64 8, .int .i64 (sn : Int)] 64)).alloc (.cells #[.int .i64 ((k : Int) + 1)] 3)).alloc (.cells #[.int .i64 ((k : Int) + 1 + ta.size)] 3)).cell? ⟨wr.heap.size + 1 + 1, 0, none⟩ = some (.int .i64 ((k : Int) + 1)) := by go_simp
    have z7 : ((((wr.alloc (.cells #[.pointer (some ⟨b, 0, none⟩)] 125)).alloc (.cells #[.int .i64 8, .int .i64 (sn : Int)] 64)).alloc (.cells #[.int .i64 ((k : Int) + 1)] 3)).alloc (.cells #[.int .i64 ((k : Int) + 1 + ta.size)] 3)).cell? ⟨wr.heap.size + 1 + 1 + 1, 0, none⟩ = some (.int .i64 ((k : Int) + 1 + ta.size)) := by go_simp
    generalize ((((wr.alloc (.cells #[.pointer (some ⟨b, 0, none⟩)] 125)).alloc (.cells #[.int .i64 8, .int .i64 (sn : Int)] 64)).alloc (.cells #[.int .i64 ((k : Int) + 1)] 3)).alloc (.cells #[.int .i64 ((k : Int) + 1 + ta.size)] 3)) = W4 at *
    have HS4 := Lib.hid (HS.out.more hx4); have HX4 := Lib.hid hx4; clear hx4
    have m1 := HG1.out; have m2 := HG2.out
    have off4 : ∀ w1 : World, Off g1 g2 W4 w1 → w1.cell? ⟨wr.heap.size, 0, none⟩ = some (.pointer (some ⟨b, 0, none⟩)) ∧ w1.cell? ⟨wr.heap.size + 1 + 1, 0, none⟩ = some (.int .i64 ((k : Int) + 1)) ∧ w1.cell? ⟨wr.heap.size + 1 + 1 + 1, 0, none⟩ = some (.int .i64 ((k : Int) + 1 + ta.size)) := fun w1 o =>
      ⟨o.cell z0 (by show wr.heap.size ≠ g1; omega) (by show wr.heap.size ≠ g2; omega), o.cell z6 (by show wr.heap.size + 1 + 1 ≠ g1; omega) (by show wr.heap.size + 1 + 1 ≠ g2; omega), o.cell z7 (by show wr.heap.size + 1 + 1 + 1 ≠ g1; omega) (by show wr.heap.size + 1 + 1 + 1 ≠ g2; omega)⟩
    have OFF4 := Lib.hid off4; clear off4 m1 m2
    have y3 := HS4.out.c3
    have yo := HS4.out.ext.keeps _ _ HCU.out
    go_still_tail 10, (by kernel_rfl)
    change wpList _ _ _ _ _ W4.drew
    go_wp2_with fail
    refine (wchoice_any b wr.heap.size _ _ true W4.drew z0 z6 z7 _ _ (IA.out W4.drew s (HS4.out.more ((Ext.refl W4).drew)))).mono ?_; rintro e w1 ⟨rfl, hs1, o1⟩
    have HS1 := Lib.hid hs1; have O1 := Lib.hid o1; clear hs1 o1
    go_wp2
    go_ret
    exact ⟨by rw [← HM.out]; rfl, by rw [← HM.out]; exact HS1.out, (Off.of_ext (HX4.out.trans ((Ext.refl W4).drew))).trans O1.out⟩
theorem wbegin_any (hp : SlN w0 PA n p) (hO : Sl w0 OA 3 (outs.map Bv)) (hn : n ≤ 14) (h0 : 0 ≤ ins) (h8 : ins < 8) : ∀ (t : Tr) (k : Nat), TreeAt p k t → t.ok → (∀ x ∈ t.flat, goodN x) → BeginOK w0 b g1 g2 PA n pc fr WA wc OA oc ins outs t k
  | .leaf x, k, ht, ok, hg => fun wr s h => wbegin_leaf w0 b g1 g2 PA n pc fr WA wc OA oc ins p outs hp hn x k wr s ht ok (hg x (by simp [Tr.flat])) h
  | .two ⟨kd, sg⟩ ta tb, k, ht, ok, hg => by
    have hgs := sub_good hg
    have hx := hg ⟨kd, sg⟩ (by simp [Tr.flat])
    have hsr := leaf_sig' hx
    have ia := wbegin_any hp hO hn h0 h8 ta (k + 1) ht.first ok.2.1 hgs.1
    have ib := wbegin_any hp hO hn h0 h8 tb (k + 1 + ta.size) ht.second ok.2.2 hgs.2
    rcases good_two' ok.1 hx with e | e | e | e
    · simp only at e; subst e; exact wbegin_seq w0 b g1 g2 PA n pc fr WA wc OA oc ins p outs hp hn sg ta tb k ht ok hsr ia ib
    · simp only at e; subst e; exact wbegin_par w0 b g1 g2 PA n pc fr WA wc OA oc ins p outs hp hn sg ta tb k ht ok hsr ia ib
    · simp only at e; subst e; exact wbegin_if w0 b g1 g2 PA n pc fr WA wc OA oc ins p outs hp h0 h8 hn sg ta tb k ht ok hsr ia ib
    · simp only at e; subst e; exact wbegin_was w0 b g1 g2 PA n pc fr WA wc OA oc ins p outs hp hO hn sg ta tb k ht ok hsr ia ib
end
end Go.Proofs.Ytlafiddfplhafaa
/- The walker's on walked. -/
namespace Go.Proofs.Ytlafiddfplhafaa
set_option linter.unusedVariables false
set_option linter.unusedSimpArgs false
open Go.RowKit
def partT (th wa : Int → Bool) (V : List Bool) (t : Tr) (k : Nat) (s : StM) : Bool × StM := if someT V t k then onT th wa V t k s else (true, s)
theorem onT_parts (th wa : Int → Bool) (V : List Bool) (x : PNode) (a b : Tr) (k : Nat) (s : StM) (hx : ¬ x.kind = 5) :
    onT th wa V (.two x a b) k s = ((partT th wa V a (k + 1) s).1 && (partT th wa V b (k + 1 + a.size) (partT th wa V a (k + 1) s).2).1, (partT th wa V b (k + 1 + a.size) (partT th wa V a (k + 1) s).2).2) := by
  simp only [onT, if_neg hx, partT]
  cases someT V a (k + 1) <;> cases someT V b (k + 1 + a.size) <;> simp
section
variable (w0 : World) (b g1 g2 : Nat) (PA : Option Addr) (n pc : Nat) (fr : Bool) (WA : Option Addr) (wc : Nat) (OA : Option Addr) (oc : Nat) (ins : Int) (p : List PNode) (outs V : List Bool)
/-- What is told of on. -/
def OnOK (t : Tr) (k : Nat) : Prop := ∀ (wr : World) (s : StM), WSt w0 b g1 g2 PA n pc fr WA wc OA oc ins wr s → someT V t k = true →
  Calls Try.prog 68 #[.pointer (some ⟨b, 0, none⟩), I k] wr fun e w' => e = .returned (.bool (onT (thereM ins) (wasM outs) V t k s).1) ∧
      (WSt w0 b g1 g2 PA n pc fr WA wc OA oc ins w' (onT (thereM ins) (wasM outs) V t k s).2 ∧ Off g1 g2 wr w')
set_option maxRecDepth 100000 in
set_option maxHeartbeats 4000000 in
theorem won_leaf (hp : SlN w0 PA n p) (hn : n ≤ 14) (h0 : 0 ≤ ins) (h8 : ins < 8) (hVk : waitsOK p V) (x : PNode) (k : Nat) (ht : TreeAt p k (.leaf x)) (ok : (Tr.leaf x).ok) (hg : goodN x) : OnOK w0 b g1 g2 PA n pc fr WA wc OA oc ins outs V (.leaf x) k := by
  intro wr s h hso
  have hle := ht.le
  have hpl := hp.1
  have hkn : k < n := by simp [Tr.size] at hle; omega
  have hsr := leaf_sig' hg
  have htop := ht.top
  have hw : waitK x.kind = true := by
    obtain ⟨y, h1, h2⟩ := hVk k (some_leaf hso)
    rw [htop] at h1; injection h1 with h1; rw [← h1] at h2; exact h2
  have hk : x.kind = 1 ∨ x.kind = 2 ∨ x.kind = 4 := by simpa [waitK, or_assoc] using hw
  obtain ⟨pb, poff, y, rfl, d0, d1, -, hy⟩ := hp.next hkn
  have hyx : y = x := by rw [htop] at hy; injection hy with hy; exact hy.symm
  subst hyx
  have c0 := h.c0
  have hbl := lt_of_cell c0
  have e0 := h.ext.keeps _ _ d0; have e1 := h.ext.keeps _ _ d1
  have hpl2 := lt_of_cell e0
  have HS := Lib.hid h; have HSR := Lib.hid hsr
  obtain ⟨kd, sg⟩ := y
  generalize hM : onT (thereM ins) (wasM outs) V (.leaf ⟨kd, sg⟩) k s = M
  simp only [onT] at hM
  clear hp h ht ok hg hle hpl htop hy d0 d1 hVk hw hso hsr
  rcases hk with rfl | rfl | rfl
  · have HM := Lib.hid hM; clear hM
    go_enter Try.func68, Try.ntmps68
    go_wp2
    go_ret
    exact ⟨by rw [← HM.out]; rfl, by rw [← HM.out]; exact HS.out.more ((Ext.refl wr).alloc _), .of_ext ((Ext.refl wr).alloc _)⟩
  · have HM := Lib.hid hM; clear hM
    go_enter Try.func68, Try.ntmps68
    go_wp2_with fail
    have hx1 := (Ext.refl wr).alloc (.cells #[.int .i64 2, .int .i64 sg] 64)
    refine (wwait_any w0 b g1 g2 _ n pc fr WA wc OA oc ins _ s (HS.out.more hx1) k hkn).mono ?_; rintro e w' ⟨rfl, rfl⟩
    go_wp2
    go_ret
    exact ⟨by rw [← HM.out]; rfl, by rw [← HM.out]; exact (HS.out.more hx1).setW k, (Off.of_ext hx1).set1 k _⟩
  · simp only [Int.reduceEq, if_false] at hM
    have hx1 := (Ext.refl wr).alloc (.cells #[.int .i64 4, .int .i64 sg] 64)
    cases hr : thereM ins sg
    · rw [hr] at hM
      simp only [Bool.false_eq_true, if_false] at hM
      have HM := Lib.hid hM; have HR := Lib.hid hr; clear hM hr
      go_enter Try.func68, Try.ntmps68
      go_wp2_with fail
      refine (wthere_any w0 b g1 g2 _ n pc fr WA wc OA oc ins _ s (HS.out.more hx1) h0 h8 sg HSR.out.1 HSR.out.2).mono ?_; rintro e w1 ⟨rfl, rfl⟩; rw [HR.out]
      go_wp2_with fail
      refine (wwait_any w0 b g1 g2 _ n pc fr WA wc OA oc ins _ s (HS.out.more hx1) k hkn).mono ?_; rintro e w' ⟨rfl, rfl⟩
      go_wp2
      go_ret
      exact ⟨by rw [← HM.out]; rfl, by rw [← HM.out]; exact (HS.out.more hx1).setW k, (Off.of_ext hx1).set1 k _⟩
    · rw [hr] at hM
      simp only [if_true] at hM
      have HM := Lib.hid hM; have HR := Lib.hid hr; clear hM hr
      go_enter Try.func68, Try.ntmps68
      go_wp2_with fail
      refine (wthere_any w0 b g1 g2 _ n pc fr WA wc OA oc ins _ s (HS.out.more hx1) h0 h8 sg HSR.out.1 HSR.out.2).mono ?_; rintro e w1 ⟨rfl, rfl⟩; rw [HR.out]
      go_wp2
      go_ret
      exact ⟨by rw [← HM.out]; rfl, by rw [← HM.out]; exact HS.out.more hx1, Off.of_ext hx1⟩
set_option maxRecDepth 100000 in
set_option maxHeartbeats 8000000 in
theorem won_seq (hp : SlN w0 PA n p) (hV : Sl w0 WA n (V.map Bv)) (hwc : n ≤ wc) (hn : n ≤ 14) (sg : Int) (ta tb : Tr) (k : Nat) (ht : TreeAt p k (.two ⟨5, sg⟩ ta tb)) (ok : (Tr.two ⟨5, sg⟩ ta tb).ok) (hsb : someT V (.two ⟨5, sg⟩ ta tb) k = true → someT V ta (k + 1) = true ∨ someT V tb (k + 1 + ta.size) = true)
    (ia : OnOK w0 b g1 g2 PA n pc fr WA wc OA oc ins outs V ta (k + 1)) (ib : OnOK w0 b g1 g2 PA n pc fr WA wc OA oc ins outs V tb (k + 1 + ta.size)) (jb : BeginOK w0 b g1 g2 PA n pc fr WA wc OA oc ins outs tb (k + 1 + ta.size)) :
    OnOK w0 b g1 g2 PA n pc fr WA wc OA oc ins outs V (.two ⟨5, sg⟩ ta tb) k := by
  intro wr s h hso
  have hor := hsb hso
  have hle := ht.le
  have hpl := hp.1
  have hkn : k < n := by simp [Tr.size] at hle; omega
  have hof := ht.of_two ok
  have htop := ht.top
  have sa := fun W s' hw => wsome_any w0 b g1 g2 PA n pc fr WA wc OA oc ins W s' hw p V hp hV hwc hn (k + 1) ta ht.first ok.2.1
  rw [show ((k + 1 : Nat) : Int) = (k : Int) + 1 from by omega] at sa
  have SA := Lib.hid sa; clear sa
  obtain ⟨pb, poff, y, rfl, d0, d1, -, hy⟩ := hp.next hkn
  have hyx : y = ⟨5, sg⟩ := by rw [htop] at hy; injection hy with hy; exact hy.symm
  subst hyx
  have c0 := h.c0
  have hbl := lt_of_cell c0
  have e0 := h.ext.keeps _ _ d0; have e1 := h.ext.keeps _ _ d1
  have hpl2 := lt_of_cell e0
  have ca := fun W s' hw hs => ia W s' hw hs
  have cb := fun W s' hw hs => ib W s' hw hs
  have cj := fun W s' hw => jb W s' hw
  rw [show ((k + 1 : Nat) : Int) = (k : Int) + 1 from by omega] at ca
  rw [show ((k + 1 + ta.size : Nat) : Int) = (k : Int) + 1 + ta.size from by omega] at cb cj
  have IA := Lib.hid ca; have IB := Lib.hid cb; have JB := Lib.hid cj
  have HP := Lib.hid hp; have HOF := Lib.hid hof; have HS := Lib.hid h
  have hx1 := (Ext.refl wr).alloc (.cells #[.int .i64 5, .int .i64 sg] 64)
  generalize hM : onT (thereM ins) (wasM outs) V (.two ⟨5, sg⟩ ta tb) k s = M
  simp only [onT, if_true] at hM
  clear ca cb cj hp hof h ht ok hle hpl htop hy d0 d1 ia ib jb hso hsb hV
  generalize hnx : (k : Int) + (Tr.two ⟨5, sg⟩ ta tb).size = beh at *
  clear hnx
  cases hsa : someT V ta (k + 1)
  · rw [hsa] at hM hor
    have hsb : someT V tb (k + 1 + ta.size) = true := by simpa using hor
    simp only [Bool.false_eq_true, if_false] at hM
    have HM := Lib.hid hM; have HSA := Lib.hid hsa; have HSB := Lib.hid hsb; clear hM hsa hsb hor
    go_enter Try.func68, Try.ntmps68
    go_wp2_with fail
    refine (progOf_any _ n pc p k _ ((HP.out.keep HS.out.ext.keeps).keep hx1.keeps) (by omega) hkn).mono ?_; rintro e w' ⟨rfl, rfl⟩; rw [HOF.out]
    go_wp2_with fail
    refine (SA.out _ s (HS.out.more hx1)).mono ?_; rintro e w1 ⟨rfl, rfl⟩; rw [HSA.out]
    go_wp2_with fail
    refine (IB.out _ s (HS.out.more hx1) HSB.out).mono ?_; rintro e w1 ⟨rfl, hs1, o1⟩
    have HS1 := Lib.hid hs1; have O1 := Lib.hid o1; clear hs1 o1
    go_wp2
    go_ret
    exact ⟨by rw [← HM.out]; rfl, by rw [← HM.out]; exact HS1.out, (Off.of_ext hx1).trans O1.out⟩
  · rw [hsa] at hM
    simp only [if_true] at hM
    clear hor
    have HSA := Lib.hid hsa; clear hsa
    cases hr : (onT (thereM ins) (wasM outs) V ta (k + 1) s).1
    · rw [hr] at hM
      have HR := Lib.hid hr; have HM := Lib.hid hM; clear hr hM
      go_enter Try.func68, Try.ntmps68
      go_wp2_with fail
      refine (progOf_any _ n pc p k _ ((HP.out.keep HS.out.ext.keeps).keep hx1.keeps) (by omega) hkn).mono ?_; rintro e w' ⟨rfl, rfl⟩; rw [HOF.out]
      go_wp2_with fail
      refine (SA.out _ s (HS.out.more hx1)).mono ?_; rintro e w1 ⟨rfl, rfl⟩; rw [HSA.out]
      go_wp2_with fail
      refine (IA.out _ s (HS.out.more hx1) HSA.out).mono ?_; rintro e w1 ⟨rfl, hs1, o1⟩; rw [HR.out]
      have HS1 := Lib.hid hs1; have O1 := Lib.hid o1; clear hs1 o1
      go_wp2
      go_ret
      exact ⟨by rw [← HM.out]; rfl, by rw [← HM.out]; exact HS1.out, (Off.of_ext hx1).trans O1.out⟩
    · rw [hr] at hM
      have HR := Lib.hid hr; have HM := Lib.hid hM; clear hr hM
      go_enter Try.func68, Try.ntmps68
      go_wp2_with fail
      refine (progOf_any _ n pc p k _ ((HP.out.keep HS.out.ext.keeps).keep hx1.keeps) (by omega) hkn).mono ?_; rintro e w' ⟨rfl, rfl⟩; rw [HOF.out]
      go_wp2_with fail
      refine (SA.out _ s (HS.out.more hx1)).mono ?_; rintro e w1 ⟨rfl, rfl⟩; rw [HSA.out]
      go_wp2_with fail
      refine (IA.out _ s (HS.out.more hx1) HSA.out).mono ?_; rintro e w1 ⟨rfl, hs1, o1⟩; rw [HR.out]
      have HS1 := Lib.hid hs1; have O1 := Lib.hid o1; clear hs1 o1
      go_wp2_with fail
      refine (JB.out w1 _ HS1.out).mono ?_; rintro e w2 ⟨rfl, hs2, o2⟩
      have HS2 := Lib.hid hs2; have O2 := Lib.hid o2; clear hs2 o2
      go_wp2
      go_ret
      exact ⟨by rw [← HM.out]; rfl, by rw [← HM.out]; exact HS2.out, ((Off.of_ext hx1).trans O1.out).trans O2.out⟩
set_option maxRecDepth 100000 in
set_option maxHeartbeats 16000000 in
theorem won_par (hp : SlN w0 PA n p) (hV : Sl w0 WA n (V.map Bv)) (hwc : n ≤ wc) (hn : n ≤ 14) (kd sg : Int) (hk6 : 6 ≤ kd) (ta tb : Tr) (k : Nat) (ht : TreeAt p k (.two ⟨kd, sg⟩ ta tb)) (ok : (Tr.two ⟨kd, sg⟩ ta tb).ok)
    (ia : OnOK w0 b g1 g2 PA n pc fr WA wc OA oc ins outs V ta (k + 1)) (ib : OnOK w0 b g1 g2 PA n pc fr WA wc OA oc ins outs V tb (k + 1 + ta.size)) :
    OnOK w0 b g1 g2 PA n pc fr WA wc OA oc ins outs V (.two ⟨kd, sg⟩ ta tb) k := by
  intro wr s h hso
  have hle := ht.le
  have hpl := hp.1
  have hkn : k < n := by simp [Tr.size] at hle; omega
  have hof := ht.of_two ok
  have htop := ht.top
  have sa := fun W s' hw => wsome_any w0 b g1 g2 PA n pc fr WA wc OA oc ins W s' hw p V hp hV hwc hn (k + 1) ta ht.first ok.2.1
  have sb := fun W s' hw => wsome_any w0 b g1 g2 PA n pc fr WA wc OA oc ins W s' hw p V hp hV hwc hn (k + 1 + ta.size) tb ht.second ok.2.2
  rw [show ((k + 1 : Nat) : Int) = (k : Int) + 1 from by omega] at sa
  rw [show ((k + 1 + ta.size : Nat) : Int) = (k : Int) + 1 + ta.size from by omega] at sb
  have SA := Lib.hid sa; have SB := Lib.hid sb; clear sa sb
  obtain ⟨pb, poff, y, rfl, d0, d1, -, hy⟩ := hp.next hkn
  have hyx : y = ⟨kd, sg⟩ := by rw [htop] at hy; injection hy with hy; exact hy.symm
  subst hyx
  have c0 := h.c0
  have hbl := lt_of_cell c0
  have e0 := h.ext.keeps _ _ d0; have e1 := h.ext.keeps _ _ d1
  have hpl2 := lt_of_cell e0
  have ca := fun W s' hw hs => ia W s' hw hs
  have cb := fun W s' hw hs => ib W s' hw hs
  rw [show ((k + 1 : Nat) : Int) = (k : Int) + 1 from by omega] at ca
  rw [show ((k + 1 + ta.size : Nat) : Int) = (k : Int) + 1 + ta.size from by omega] at cb
  have IA := Lib.hid ca; have IB := Lib.hid cb
  have HP := Lib.hid hp; have HOF := Lib.hid hof; have HS := Lib.hid h
  have hx1 := (Ext.refl wr).alloc (.cells #[.int .i64 kd, .int .i64 sg] 64)
  have HX1 := Lib.hid hx1
  generalize hM : onT (thereM ins) (wasM outs) V (.two ⟨kd, sg⟩ ta tb) k s = M
  rw [onT_parts _ _ _ _ _ _ _ _ (by simp only; omega)] at hM
  have t1 : (kd == 1) = false := by simp; omega
  have t2 : (kd == 2) = false := by simp; omega
  have t4 : (kd == 4) = false := by simp; omega
  have t5 : (kd == 5) = false := by simp; omega
  generalize hA : partT (thereM ins) (wasM outs) V ta (k + 1) s = A at hM
  generalize hB : partT (thereM ins) (wasM outs) V tb (k + 1 + ta.size) A.2 = B at hM
  have HM := Lib.hid hM; have HA := Lib.hid hA; have HB := Lib.hid hB
  clear ca cb hp hof h ht ok hle hpl htop hy d0 d1 ia ib hso hV hM hA hB hx1
  generalize hnx : (k : Int) + (Tr.two ⟨kd, sg⟩ ta tb).size = beh at *
  clear hnx
  have i0 : ∀ W, (Instr.index 155 (.agg #[.int .i64 ((k : Int) + 1), .int .i64 ((k : Int) + 1 + ta.size)]) (.int .i64 0)).run Try.prog W = .ok (.int .i64 ((k : Int) + 1)) W := fun _ => by kernel_rfl
  have i1 : ∀ W, (Instr.index 155 (.agg #[.int .i64 ((k : Int) + 1), .int .i64 ((k : Int) + 1 + ta.size)]) (.int .i64 1)).run Try.prog W = .ok (.int .i64 ((k : Int) + 1 + ta.size)) W := fun _ => by kernel_rfl
  go_enter Try.func68, Try.ntmps68
  go_wp2_with fail
  refine (progOf_any _ n pc p k _ ((HP.out.keep HS.out.ext.keeps).keep HX1.out.keeps) (by omega) hkn).mono ?_; rintro e w' ⟨rfl, rfl⟩; rw [HOF.out]
  go_wp2
  go_loopw [9, 11, 69] (fun o _ j wr' => ∃ (ob : Bool) (st : StM), o = .bool ob ∧ WSt w0 b g1 g2 (some ⟨pb, poff, none⟩) n pc fr WA wc OA oc ins wr' st ∧ Off g1 g2 wr wr' ∧
      ((j = .int .i64 0 ∧ ob = true ∧ st = s) ∨ (j = .int .i64 1 ∧ ob = A.1 ∧ st = A.2) ∨ (j = .int .i64 2 ∧ ob = (A.1 && B.1) ∧ st = B.2))) (fun _ _ j _ => 2 - (intOf j).toNat)
  case atStart => exact ⟨true, s, rfl, HS.out.more HX1.out, Off.of_ext HX1.out, .inl ⟨rfl, rfl, rfl⟩⟩
  case round =>
    obtain ⟨ob, st, rfl, hw, ho, hj⟩ := hrel
    have HW := Lib.hid hw; have HO := Lib.hid ho; clear hw ho
    rcases hj with ⟨rfl, rfl, rfl⟩ | ⟨rfl, rfl, rfl⟩ | ⟨rfl, rfl, rfl⟩
    · cases hsa : someT V ta (k + 1)
      · have HSA := Lib.hid hsa
        have hA2 := HA.out
        rw [partT, hsa] at hA2
        have HA2 := Lib.hid hA2; clear hsa hA2
        go_wp2_with fail
        refine (SA.out _ st HW.out).mono ?_; rintro e w1 ⟨rfl, rfl⟩; rw [HSA.out]
        go_wp2
        go_roundw
        case rel => exact ⟨true, st, rfl, HW.out, HO.out, .inr (.inl ⟨rfl, by rw [← HA2.out]; rfl, by rw [← HA2.out]; rfl⟩)⟩
        case measure => simp [intOf]
      · have HSA := Lib.hid hsa
        have hA2 := HA.out
        rw [partT, hsa] at hA2
        have HA2 := Lib.hid hA2; clear hsa hA2
        cases hr : (onT (thereM ins) (wasM outs) V ta (k + 1) st).1
        all_goals
          have HR := Lib.hid hr; clear hr
          go_wp2_with fail
          refine (SA.out _ st HW.out).mono ?_; rintro e w1 ⟨rfl, rfl⟩; rw [HSA.out]
          go_wp2_with fail
          refine (IA.out _ st HW.out HSA.out).mono ?_; rintro e w1 ⟨rfl, hs1, o1⟩; rw [HR.out]
          have HS1 := Lib.hid hs1; have O1 := Lib.hid o1; clear hs1 o1
          go_wp2
          go_roundw
          case rel => exact ⟨_, _, rfl, HS1.out, HO.out.trans O1.out, .inr (.inl ⟨rfl, by rw [← HA2.out]; exact HR.out.symm, by rw [← HA2.out]; rfl⟩)⟩
          case measure => simp [intOf]
    · cases hsb : someT V tb (k + 1 + ta.size)
      · have HSB := Lib.hid hsb
        have hB2 := HB.out
        rw [partT, hsb] at hB2
        have HB2 := Lib.hid hB2; clear hsb hB2
        go_wp2_with fail
        refine (SB.out _ _ HW.out).mono ?_; rintro e w1 ⟨rfl, rfl⟩; rw [HSB.out]
        go_wp2
        go_roundw
        case rel => exact ⟨_, _, rfl, HW.out, HO.out, .inr (.inr ⟨rfl, by rw [← HB2.out]; simp, by rw [← HB2.out]; rfl⟩)⟩
        case measure => simp [intOf]
      · have HSB := Lib.hid hsb
        have hB2 := HB.out
        rw [partT, hsb] at hB2
        have HB2 := Lib.hid hB2; clear hsb hB2
        cases hr : (onT (thereM ins) (wasM outs) V tb (k + 1 + ta.size) A.2).1
        all_goals
          have HR := Lib.hid hr; clear hr
          go_wp2_with fail
          refine (SB.out _ _ HW.out).mono ?_; rintro e w1 ⟨rfl, rfl⟩; rw [HSB.out]
          go_wp2_with fail
          refine (IB.out _ _ HW.out HSB.out).mono ?_; rintro e w1 ⟨rfl, hs1, o1⟩; rw [HR.out]
          have HS1 := Lib.hid hs1; have O1 := Lib.hid o1; clear hs1 o1
          go_wp2
          go_roundw
          case rel => exact ⟨_, _, rfl, HS1.out, HO.out.trans O1.out, .inr (.inr ⟨rfl, by rw [← HB2.out]; simp [HR.out], by rw [← HB2.out]; rfl⟩)⟩
          case measure => simp [intOf]
    · go_wp2
      go_ret
      exact ⟨by rw [← HM.out]; rfl, by rw [← HM.out]; exact HW.out, HO.out⟩
theorem won_any (hp : SlN w0 PA n p) (hO : Sl w0 OA 3 (outs.map Bv)) (hV : Sl w0 WA n (V.map Bv)) (hwc : n ≤ wc) (hn : n ≤ 14) (h0 : 0 ≤ ins) (h8 : ins < 8) (hVk : waitsOK p V) : ∀ (t : Tr) (k : Nat), TreeAt p k t → t.ok → (∀ x ∈ t.flat, goodN x) → OnOK w0 b g1 g2 PA n pc fr WA wc OA oc ins outs V t k
  | .leaf x, k, ht, ok, hg => won_leaf w0 b g1 g2 PA n pc fr WA wc OA oc ins p outs V hp hn h0 h8 hVk x k ht ok (hg x (by simp [Tr.flat]))
  | .two ⟨kd, sg⟩ ta tb, k, ht, ok, hg => by
    have hgs := sub_good hg
    have hx := hg ⟨kd, sg⟩ (by simp [Tr.flat])
    have ia := won_any hp hO hV hwc hn h0 h8 hVk ta (k + 1) ht.first ok.2.1 hgs.1
    have ib := won_any hp hO hV hwc hn h0 h8 hVk tb (k + 1 + ta.size) ht.second ok.2.2 hgs.2
    have jb := wbegin_any w0 b g1 g2 PA n pc fr WA wc OA oc ins p outs hp hO hn h0 h8 tb (k + 1 + ta.size) ht.second ok.2.2 hgs.2
    by_cases e : kd = 5
    · subst e; exact won_seq w0 b g1 g2 PA n pc fr WA wc OA oc ins p outs V hp hV hwc hn sg ta tb k ht ok (fun h => some_two hVk ht ok h) ia ib jb
    · have h6 : 6 ≤ kd := by rcases good_two' ok.1 hx with q | q | q | q <;> simp only at q <;> omega
      exact won_par w0 b g1 g2 PA n pc fr WA wc OA oc ins p outs V hp hV hwc hn kd sg h6 ta tb k ht ok ia ib
end
end Go.Proofs.Ytlafiddfplhafaa
/- walk.Turn walked. -/
namespace Go.Proofs.Ytlafiddfplhafaa
set_option linter.unusedVariables false
set_option linter.unusedSimpArgs false
open Go.RowKit
attribute [local go_sem ↓] Go.wp_at_zero Go.wp_at_succ
abbrev restV (fr : Bool) (WA : Option Addr) (wn wc : Nat) (OA : Option Addr) (on oc : Nat) : Value := .agg #[Bv fr, .slice WA wn wc, .slice OA on oc]
/-- The three cells of a rest that reads as r. -/
structure RestC (w : World) (fr : Bool) (WA : Option Addr) (wn wc : Nat) (OA : Option Addr) (on oc : Nat) (r : RestM) : Prop where
  fresh : r.fresh = fr
  waits : Sl w WA wn (r.waits.map Bv)
  outs : Sl w OA on (r.outs.map Bv)
  wl : wn ≤ wc ∧ wc ≤ maxLen
  ol : on ≤ oc ∧ oc ≤ maxLen
theorem RestC.keep {w w' : World} {fr : Bool} {WA : Option Addr} {wn wc : Nat} {OA : Option Addr} {on oc : Nat} {r : RestM} (h : RestC w fr WA wn wc OA on oc r) (hk : Keeps w w') : RestC w' fr WA wn wc OA on oc r :=
  ⟨h.fresh, h.waits.keep hk, h.outs.keep hk, h.wl, h.ol⟩
/-- What is told of a rest that came of an instant. -/
def TurnOK (w w' : World) (n : Nat) (e : Ending) (M : Bool × StM) : Prop :=
  ∃ g1 g2, e = .returned (Pr (restV false (some ⟨g1, 0, none⟩) n n (some ⟨g2, 0, none⟩) 3 3) (Bv M.1)) ∧ w.heap.size ≤ g1 ∧ w.heap.size ≤ g2 ∧ RestC w' false (some ⟨g1, 0, none⟩) n n (some ⟨g2, 0, none⟩) 3 3 ⟨false, M.2.W, M.2.O⟩ ∧ Ext w w'
set_option maxRecDepth 100000 in
set_option maxHeartbeats 8000000 in
theorem turn_any (PA : Option Addr) (n pc : Nat) (t : Tr) (fr : Bool) (WA : Option Addr) (wn wc : Nat) (OA : Option Addr) (on oc : Nat) (r : RestM) (ins : Int) (w : World)
    (hp : SlN w PA n t.flat) (ok : t.ok) (hg : ∀ x ∈ t.flat, goodN x) (hs : t.size ≤ 14) (hr : RestC w fr WA wn wc OA on oc r) (hwl : r.waits.length = t.size) (hol : r.outs.length = 3) (hV : waitsOK t.flat r.waits) (h0 : 0 ≤ ins) (h8 : ins < 8) :
    Calls Try.prog 26 #[.slice PA n pc, restV fr WA wn wc OA on oc, I ins] w fun e w' => TurnOK w w' n e (turnM t r ins) := by
  have hn : n = t.size := by rw [← flat_size, hp.1]
  have hwn : wn = n := by have := hr.waits.len; omega
  have hon : on = 3 := by have := hr.outs.len; omega
  subst hwn; subst hon
  have hwc := hr.wl.1
  have hn14 : wn ≤ 14 := by omega
  have HP := Lib.hid hp; have HR := Lib.hid hr; have HN := Lib.hid hn
  generalize hM : turnM t r ins = M
  unfold turnM at hM
  rw [hr.fresh] at hM
  have HM := Lib.hid hM
  have HOK := Lib.hid ok; have HG := Lib.hid hg; have HV := Lib.hid hV
  clear hp hr hn hM hwl hol ok hg hV
  have f0 : w.heap.size + 1 < ((w.alloc (.cells #[Bv fr, .slice WA wn wc, .slice OA 3 oc] 59)).alloc (.cells #[.bool false, .slice none 0 0, .slice none 0 0] 59)).heap.size := by simp
  have f1 : ∀ j, ((w.alloc (.cells #[Bv fr, .slice WA wn wc, .slice OA 3 oc] 59)).alloc (.cells #[.bool false, .slice none 0 0, .slice none 0 0] 59)).frozen? ⟨w.heap.size + 1, j, none⟩ = false := fun j => World.frozen?_alloc_at _ _ _ _ (by simp)
  have HF1 := Lib.hid f1; have HF0 := Lib.hid f0; clear f0 f1
  go_enter Try.func26, Try.ntmps26
  go_wp2_with fail
  have hx2 : Ext w ((w.alloc (.cells #[Bv fr, .slice WA wn wc, .slice OA 3 oc] 59)).alloc (.cells #[.bool false, .slice none 0 0, .slice none 0 0] 59)) := ((Ext.refl w).alloc _).alloc _
  have z0 : ((w.alloc (.cells #[Bv fr, .slice WA wn wc, .slice OA 3 oc] 59)).alloc (.cells #[.bool false, .slice none 0 0, .slice none 0 0] 59)).cell? ⟨w.heap.size, 0, none⟩ = some (Bv fr) := by go_simp
  have z1 : ((w.alloc (.cells #[Bv fr, .slice WA wn wc, .slice OA 3 oc] 59)).alloc (.cells #[.bool false, .slice none 0 0, .slice none 0 0] 59)).cell? ⟨w.heap.size, 1, none⟩ = some (.slice WA wn wc) := by go_simp
  have z2 : ((w.alloc (.cells #[Bv fr, .slice WA wn wc, .slice OA 3 oc] 59)).alloc (.cells #[.bool false, .slice none 0 0, .slice none 0 0] 59)).cell? ⟨w.heap.size, 2, none⟩ = some (.slice OA 3 oc) := by go_simp
  have y0 : ((w.alloc (.cells #[Bv fr, .slice WA wn wc, .slice OA 3 oc] 59)).alloc (.cells #[.bool false, .slice none 0 0, .slice none 0 0] 59)).cell? ⟨w.heap.size + 1, 0, none⟩ = some (.bool false) := by go_simp
  have y1 : ((w.alloc (.cells #[Bv fr, .slice WA wn wc, .slice OA 3 oc] 59)).alloc (.cells #[.bool false, .slice none 0 0, .slice none 0 0] 59)).cell? ⟨w.heap.size + 1, 1, none⟩ = some (.slice none 0 0) := by go_simp
  have y2 : ((w.alloc (.cells #[Bv fr, .slice WA wn wc, .slice OA 3 oc] 59)).alloc (.cells #[.bool false, .slice none 0 0, .slice none 0 0] 59)).cell? ⟨w.heap.size + 1, 2, none⟩ = some (.slice none 0 0) := by go_simp
  generalize (w.alloc (.cells #[Bv fr, .slice WA wn wc, .slice OA 3 oc] 59)).alloc (.cells #[.bool false, .slice none 0 0, .slice none 0 0] 59) = W2 at *
  go_region_held3 (fun w' => w'.cell? ⟨w.heap.size, 0, none⟩ = some (Bv fr) ∧ w'.cell? ⟨w.heap.size, 1, none⟩ = some (.slice WA wn wc) ∧ w'.cell? ⟨w.heap.size, 2, none⟩ = some (.slice OA 3 oc))
    (first | exact ⟨x1.keeps _ _ z0, x1.keeps _ _ z1, x1.keeps _ _ z2⟩ | go_keep)
    (first | (go_at_call 25; refine (fresh_any PA wn pc W2.drew hn14).mono ?_; rintro e w1 ⟨g1, g2, rfl, hg1, hg2, hne, hW, hO, x1⟩))
  have hx3 := (hx2.trans ((Ext.refl W2).drew)).trans x1
  have hg1' := (hW.lt g1 rfl).2; have hg2' := (hO.lt g2 rfl).2
  have hz2 : w.heap.size + 2 ≤ W2.drew.heap.size := by have := HF0.out; show _ ≤ W2.heap.size; omega
  have hsz : w.heap.size + 2 ≤ w1.heap.size := Nat.le_trans hz2 x1.size
  have mkW : ∀ Q : World, Q = w1.alloc (.cells #[.slice PA wn pc, Bv fr, .slice WA wn wc, .slice OA 3 oc, .bool false, .slice (some ⟨g1, 0, none⟩) wn wn, .slice (some ⟨g2, 0, none⟩) 3 3, I ins] 127) →
      WSt w w1.heap.size g1 g2 PA wn pc fr WA wc OA oc ins Q ⟨List.replicate wn false, [false, false, false]⟩ ∧ Ext W2 Q := fun Q hQ => by
    subst hQ
    have ha : Ext w1 (w1.alloc (.cells #[.slice PA wn pc, Bv fr, .slice WA wn wc, .slice OA 3 oc, .bool false, .slice (some ⟨g1, 0, none⟩) wn wn, .slice (some ⟨g2, 0, none⟩) 3 3, I ins] 127)) := (Ext.refl w1).alloc _
    refine ⟨⟨hx3.trans ha, by omega, by omega, by omega, by omega, by omega, hne, ?_, ?_, ?_, ?_, ?_, ?_, ?_, ?_, own_base (own_ext hW ha) (by omega), own_base (own_ext hO ha) (by omega)⟩, (((Ext.refl W2).drew).trans x1).trans ha⟩
    all_goals (rw [World.cell?_alloc_new]; rfl)
  have tail : ∀ (w2 : World) (st : StM), WSt w w1.heap.size g1 g2 PA wn pc fr WA wc OA oc ins w2 st → (∃ Q, Ext W2 Q ∧ Off g1 g2 Q w2) →
      (w2.cell? ⟨w.heap.size + 1, 0, none⟩ = some (.bool false) ∧ w2.cell? ⟨w.heap.size + 1, 1, none⟩ = some (.slice none 0 0) ∧ w2.cell? ⟨w.heap.size + 1, 2, none⟩ = some (.slice none 0 0)) ∧ (∀ j, w2.frozen? ⟨w.heap.size + 1, j, none⟩ = false) ∧
      ∀ v0 v1 v2, RestC (((w2.setCell ⟨w.heap.size + 1, 0, none⟩ v0).setCell ⟨w.heap.size + 1, 1, none⟩ v1).setCell ⟨w.heap.size + 1, 2, none⟩ v2) false (some ⟨g1, 0, none⟩) wn wn (some ⟨g2, 0, none⟩) 3 3 ⟨false, st.W, st.O⟩ ∧
        Ext w (((w2.setCell ⟨w.heap.size + 1, 0, none⟩ v0).setCell ⟨w.heap.size + 1, 1, none⟩ v1).setCell ⟨w.heap.size + 1, 2, none⟩ v2) := fun w2 st hw ⟨Q, hQ, ho⟩ => by
    have n1 : w.heap.size + 1 ≠ g1 := by omega
    have n2 : w.heap.size + 1 ≠ g2 := by omega
    refine ⟨⟨ho.cell (hQ.keeps _ _ y0) n1 n2, ho.cell (hQ.keeps _ _ y1) n1 n2, ho.cell (hQ.keeps _ _ y2) n1 n2⟩, fun j => ?_, fun v0 v1 v2 => ⟨⟨rfl, ?_, ?_, ⟨Nat.le_refl _, by unfold maxLen; omega⟩, ⟨Nat.le_refl _, by unfold maxLen; omega⟩⟩, ?_⟩⟩
    · have hb : w.heap.size + 1 < W2.heap.size := HF0.out
      have e1 : w2.heap[w.heap.size + 1]? = Q.heap[w.heap.size + 1]? := ho.block _ (Nat.lt_of_lt_of_le hb hQ.size) n1 n2
      have e2 : Q.heap[w.heap.size + 1]? = W2.heap[w.heap.size + 1]? := hQ.block _ hb
      rw [World.frozen?_of_block (a := ⟨w.heap.size + 1, j, none⟩) (e1.trans e2)]; exact HF1.out j
    · obtain ⟨A, c, hv, -, -, hsl⟩ := own_sl (own_other (g := w.heap.size + 1) (j := 2) (u := v2) (own_other (g := w.heap.size + 1) (j := 1) (u := v1) (own_other (g := w.heap.size + 1) (j := 0) (u := v0) hw.W (fun e => n1 (Option.some.inj e).symm)) (fun e => n1 (Option.some.inj e).symm)) (fun e => n1 (Option.some.inj e).symm))
      injection hv with hA _ _; subst hA; exact hsl
    · obtain ⟨A, c, hv, -, -, hsl⟩ := own_sl (own_other (g := w.heap.size + 1) (j := 2) (u := v2) (own_other (g := w.heap.size + 1) (j := 1) (u := v1) (own_other (g := w.heap.size + 1) (j := 0) (u := v0) hw.O (fun e => n2 (Option.some.inj e).symm)) (fun e => n2 (Option.some.inj e).symm)) (fun e => n2 (Option.some.inj e).symm))
      injection hv with hA _ _; subst hA; exact hsl
    · exact ((hw.ext.setCell (by show w.heap.size ≤ w.heap.size + 1; omega) _).setCell (by show w.heap.size ≤ w.heap.size + 1; omega) _).setCell (by show w.heap.size ≤ w.heap.size + 1; omega) _
  have zk : ∀ Q, Ext W2 Q → Q.cell? ⟨w.heap.size, 0, none⟩ = some (Bv fr) := fun Q hQ => hQ.keeps _ _ z0
  have hz1 : w1.cell? ⟨w.heap.size, 0, none⟩ = some (Bv fr) := ((Ext.refl W2).drew.trans x1).keeps _ _ z0
  have MK := Lib.hid mkW; have TL := Lib.hid tail
  have hwsz : w.heap.size < w1.heap.size := by omega
  clear mkW tail zk z0 z1 z2 y0 y1 y2 hx3 hg1' hg2' hz2 hsz hW hO x1 hx2 hg1 hg2 hne
  cases fr
  · have hm := HM.out
    simp only [Bool.false_eq_true, if_false] at hm
    cases hsome : someT r.waits t 0
    · rw [hsome] at hm
      simp only [Bool.false_eq_true, if_false] at hm
      rw [← HN.out] at hm
      have HM1 := Lib.hid hm; have HSO := Lib.hid hsome; clear hm hsome HM
      go_wp2_with fail
      obtain ⟨hw, hx⟩ := MK.out _ rfl
      refine (wsome_any w w1.heap.size g1 g2 PA wn pc false WA wc OA oc ins _ _ hw t.flat r.waits HP.out HR.out.waits hwc hn14 0 t (TreeAt.root t) HOK.out).mono ?_; rintro e w2 ⟨rfl, rfl⟩; rw [HSO.out]
      generalize hW2 : w1.alloc (.cells #[.slice PA wn pc, Bv false, .slice WA wn wc, .slice OA 3 oc, .bool false, .slice (some ⟨g1, 0, none⟩) wn wn, .slice (some ⟨g2, 0, none⟩) 3 3, I ins] 127) = w2 at *
      have HS2 := Lib.hid hw; have HO2 : Hid (∃ Q, Ext W2 Q ∧ Off g1 g2 Q w2) := ⟨w2, hx, Off.refl _ _ _⟩; clear hw hx hW2
      obtain ⟨⟨y0, y1, y2⟩, yf, yr⟩ := TL.out w2 _ HS2.out HO2.out
      have c4 := HS2.out.c4; have c5 := HS2.out.c5; have c6 := HS2.out.c6
      have YR := Lib.hid yr; clear yr
      go_wp2
      refine bodyPost_ret (v := Pr (restV false (some ⟨g1, 0, none⟩) wn wn (some ⟨g2, 0, none⟩) 3 3) (Bv false)) (by simp [results, Try.results26, go_sem, y0, y1, y2]) rfl ⟨g1, g2, by rw [← HM1.out] <;> rfl, HS2.out.h1, HS2.out.h2, by rw [← HM1.out]; exact (YR.out _ _ _).1, (YR.out _ _ _).2⟩
    · rw [hsome] at hm
      simp only [if_true] at hm
      rw [← HN.out] at hm
      have HM1 := Lib.hid hm; have HSO := Lib.hid hsome; clear hm hsome HM
      go_wp2_with fail
      obtain ⟨hw, hx⟩ := MK.out _ rfl
      refine (wsome_any w w1.heap.size g1 g2 PA wn pc false WA wc OA oc ins _ _ hw t.flat r.waits HP.out HR.out.waits hwc hn14 0 t (TreeAt.root t) HOK.out).mono ?_; rintro e w2 ⟨rfl, rfl⟩; rw [HSO.out]
      have HW0 := Lib.hid hw; have HX0 := Lib.hid hx; clear hw hx
      go_wp2_with fail
      refine (won_any w w1.heap.size g1 g2 PA wn pc false WA wc OA oc ins t.flat r.outs r.waits HP.out HR.out.outs HR.out.waits hwc hn14 h0 h8 HV.out t 0 (TreeAt.root t) HOK.out HG.out _ _ HW0.out HSO.out).mono ?_; rintro e w2 ⟨rfl, hs2, o2⟩
      have HS2 := Lib.hid hs2; have HO2 : Hid (∃ Q, Ext W2 Q ∧ Off g1 g2 Q w2) := ⟨_, HX0.out, o2⟩; clear hs2 o2
      obtain ⟨⟨y0, y1, y2⟩, yf, yr⟩ := TL.out w2 _ HS2.out HO2.out
      have c4 := HS2.out.c4; have c5 := HS2.out.c5; have c6 := HS2.out.c6
      have YR := Lib.hid yr; clear yr
      go_wp2
      refine bodyPost_ret (v := Pr (restV false (some ⟨g1, 0, none⟩) wn wn (some ⟨g2, 0, none⟩) 3 3) (Bv (onT (thereM ins) (wasM r.outs) r.waits t 0 ⟨List.replicate wn false, [false, false, false]⟩).1)) (by simp [results, Try.results26, go_sem, y0, y1, y2]) rfl ⟨g1, g2, by rw [← HM1.out] <;> rfl, HS2.out.h1, HS2.out.h2, by rw [← HM1.out]; exact (YR.out _ _ _).1, (YR.out _ _ _).2⟩
  · have hm := HM.out
    simp only [if_true] at hm
    rw [← HN.out] at hm
    have HM1 := Lib.hid hm; clear hm HM
    go_wp2_with fail
    obtain ⟨hw, hx⟩ := MK.out _ rfl
    refine (wbegin_any w w1.heap.size g1 g2 PA wn pc true WA wc OA oc ins t.flat r.outs HP.out HR.out.outs hn14 h0 h8 t 0 (TreeAt.root t) HOK.out HG.out _ _ hw).mono ?_; rintro e w2 ⟨rfl, hs2, o2⟩
    have HS2 := Lib.hid hs2; have HO2 : Hid (∃ Q, Ext W2 Q ∧ Off g1 g2 Q w2) := ⟨_, hx, o2⟩; clear hs2 o2 hw hx
    obtain ⟨⟨y0, y1, y2⟩, yf, yr⟩ := TL.out w2 _ HS2.out HO2.out
    have c4 := HS2.out.c4; have c5 := HS2.out.c5; have c6 := HS2.out.c6
    have YR := Lib.hid yr; clear yr
    go_wp2
    refine bodyPost_ret (v := Pr (restV false (some ⟨g1, 0, none⟩) wn wn (some ⟨g2, 0, none⟩) 3 3) (Bv (beginT (thereM ins) (wasM r.outs) t 0 ⟨List.replicate wn false, [false, false, false]⟩).1)) (by simp [results, Try.results26, go_sem, y0, y1, y2]) rfl ⟨g1, g2, by rw [← HM1.out] <;> rfl, HS2.out.h1, HS2.out.h2, by rw [← HM1.out]; exact (YR.out _ _ _).1, (YR.out _ _ _).2⟩
end Go.Proofs.Ytlafiddfplhafaa
