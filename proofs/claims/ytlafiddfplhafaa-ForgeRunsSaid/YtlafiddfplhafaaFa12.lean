/- Programs as nets, in plain Lean: the gates of a program's net, and what they tell at one instant. No Go in sight. -/
import Derived.Test.YtlafiddfplhafaaFa09
import Derived.Test.YtlafiddfplhafaaFa02
import Derived.Test.YtlafiddfplhafaaFa01
import Derived.Test.YtlafiddfplhafaaFa04
import Derived.Test.YtlafiddfplhafaaFa08
import Derived.Test.YtlafiddfplhafaaFa10
import Derived.Laws.CopyOwn
namespace Go.Proofs.Ytlafiddfplhafaa
set_option linter.unusedVariables false
set_option linter.unusedSimpArgs false
set_option linter.unusedVariables false
set_option linter.unusedSimpArgs false
structure OutF where
  over : Int
  some : Int
  G : List GateM
  R : List StoreM
  E : List (Int × Int)
abbrev gAll (l : List Int) : GateM := ⟨4, 0, l⟩
abbrev gAny (l : List Int) : GateM := ⟨5, 0, l⟩
abbrev gNot (a : Int) : GateM := ⟨6, 0, [a]⟩
abbrev gNever : GateM := ⟨0, 0, []⟩
abbrev gReg (n : Nat) : GateM := ⟨3, n, []⟩
abbrev gIn (n : Nat) : GateM := ⟨2, n, []⟩
def insG (s : Int) : Int := s
def wasG (s : Int) : Int := s + 5
def isG (x : PNode) : Int := if x.kind = 7 then insG x.sig else wasG x.sig
/-- What a node brings, begun by a gate, where so many gates and registers are there. -/
def nodeF : Tr → Nat → Nat → Int → OutF
  | .leaf x, g, r, bg =>
    if x.kind = 0 then ⟨bg, g, [gNever], [], []⟩
    else if x.kind = 3 then ⟨bg, g, [gNever], [], [(x.sig, bg)]⟩
    else if x.kind = 1 then ⟨g, g, [gReg r], [⟨false, bg⟩], []⟩
    else if x.kind = 2 then ⟨g + 2, g, [gReg r, gAny [bg, g], gNever], [⟨false, g + 1⟩], []⟩
    else ⟨g + 4, g, [gReg r, gNot (insG x.sig), gAll [g, g + 1], gAny [bg, g + 2], gAll [g, insG x.sig]], [⟨false, g + 3⟩], []⟩
  | .two x a b, g, r, bg =>
    if x.kind = 5 then
      let A := nodeF a g r bg
      let B := nodeF b (g + A.G.length) (r + A.R.length) A.over
      ⟨B.over, (g + A.G.length + B.G.length : Nat), A.G ++ (B.G ++ [gAny [A.some, B.some]]), A.R ++ B.R, A.E ++ B.E⟩
    else if x.kind = 6 then
      let A := nodeF a g r bg
      let B := nodeF b (g + A.G.length) (r + A.R.length) bg
      let q : Int := (g + A.G.length + B.G.length : Nat)
      ⟨q + 7, q + 8, A.G ++ (B.G ++ [gAny [A.over, B.over], gAny [bg, A.some], gNot (q + 1), gAny [A.over, q + 2], gAny [bg, B.some], gNot (q + 4), gAny [B.over, q + 5], gAll [q, q + 3, q + 6], gAny [A.some, B.some]]), A.R ++ B.R, A.E ++ B.E⟩
    else
      let A := nodeF a (g + 1) r g
      let q : Int := (g + 1 + A.G.length : Nat)
      let B := nodeF b (g + 1 + A.G.length + 2) (r + A.R.length) (q + 1)
      let q2 : Int := (g + 1 + A.G.length + 2 + B.G.length : Nat)
      ⟨q2, q2 + 1, gAll [bg, isG x] :: (A.G ++ ([gNot (isG x), gAll [bg, q]] ++ (B.G ++ [gAny [A.over, B.over], gAny [A.some, B.some]]))), A.R ++ B.R, A.E ++ B.E⟩
def emitsF (E : List (Int × Int)) (s : Int) : List Int := (E.filter fun e => decide (e.1 = s)).map (·.2)
def headG : List GateM := [gIn 0, gIn 1, gIn 2, gReg 0, gNever, gReg 1, gReg 2, gReg 3]
def netF (t : Tr) : NetM :=
  let o := nodeF t 8 4 3
  let q : Int := (8 + o.G.length : Nat)
  ⟨3, headG ++ (o.G ++ [gAny (emitsF o.E 0), gAny (emitsF o.E 1), gAny (emitsF o.E 2)]), [⟨true, 4⟩, ⟨false, q⟩, ⟨false, q + 1⟩, ⟨false, q + 2⟩] ++ o.R, [q, q + 1, q + 2]⟩
/-! values along the gates -/
def evG (regs ins : List Int) : List GateM → List Int → List Int
  | [], v => v
  | g :: l, v => evG regs ins l (v ++ [worthM regs ins v g])
def bI (b : Bool) : Int := if b then 1 else 0
structure Val (v : List Int) (k : Int) (x : Bool) : Prop where
  lo : 0 ≤ k
  hi : k < v.length
  is : valI v k = bI x
theorem evG_append (regs ins : List Int) (a b : List GateM) : ∀ v, evG regs ins (a ++ b) v = evG regs ins b (evG regs ins a v) := by
  induction a with
  | nil => intro v; rfl
  | cons g a ih => intro v; exact ih _
theorem evG_len (regs ins : List Int) (l : List GateM) : ∀ v, (evG regs ins l v).length = v.length + l.length := by
  induction l with
  | nil => intro v; rfl
  | cons g l ih => intro v; simp only [evG]; rw [ih]; simp; omega
theorem evG_pre (regs ins : List Int) (l : List GateM) : ∀ v, ∃ r, evG regs ins l v = v ++ r := by
  induction l with
  | nil => intro v; exact ⟨[], by simp [evG]⟩
  | cons g l ih =>
    intro v
    obtain ⟨r, hr⟩ := ih (v ++ [worthM regs ins v g])
    exact ⟨[worthM regs ins v g] ++ r, by simp only [evG]; rw [hr]; simp⟩
theorem valI_app {v r : List Int} {k : Int} (h0 : 0 ≤ k) (h : k < v.length) : valI (v ++ r) k = valI v k := by
  unfold valI; rw [List.getElem?_append_left (by omega)]
theorem Val.app {v : List Int} {k : Int} {x : Bool} (h : Val v k x) (r : List Int) : Val (v ++ r) k x :=
  ⟨h.lo, by have := h.hi; simp; omega, by rw [valI_app h.lo h.hi]; exact h.is⟩
theorem Val.ev {v : List Int} {k : Int} {x : Bool} (h : Val v k x) (regs ins : List Int) (l : List GateM) : Val (evG regs ins l v) k x := by
  obtain ⟨r, hr⟩ := evG_pre regs ins l v
  rw [hr]; exact h.app r
theorem Val.eq {v : List Int} {k : Int} {x y : Bool} (h : Val v k x) (g : Val v k y) : x = y := by
  have h1 := h.is; have h2 := g.is
  cases x <;> cases y <;> simp_all [bI]
theorem valI_new (v : List Int) (x : Int) : valI (v ++ [x]) (v.length : Int) = x := by simp [valI]
theorem val_new {v : List Int} {y : Int} {x : Bool} {k : Int} (hk : k = v.length) (h : y = bI x) : Val (v ++ [y]) k x :=
  ⟨by omega, by simp; omega, by subst hk; rw [valI_new]; exact h⟩
theorem worth_all (regs ins v l : List Int) : worthM regs ins v (gAll l) = ofM 4 (l.map (valI v)) := rfl
theorem worth_any (regs ins v l : List Int) : worthM regs ins v (gAny l) = ofM 5 (l.map (valI v)) := rfl
theorem of4_bools (l : List Bool) : ofM 4 (l.map bI) = bI (l.all id) := by
  simp only [ofM, if_true, gatherM_eq 0 (by decide)]
  induction l with
  | nil => rfl
  | cons x l ih => cases x <;> simp_all [bI]
theorem of5_bools (l : List Bool) : ofM 5 (l.map bI) = bI (l.any id) := by
  have h5 : ¬ (5 : Int) = 4 := by decide
  simp only [ofM, if_neg h5, if_true, gatherM_eq 1 (by decide)]
  induction l with
  | nil => rfl
  | cons x l ih => cases x <;> simp_all [bI]
section
variable {regs ins v : List Int} {a b c k : Int} {x y z : Bool}
theorem new_all2 (ha : Val v a x) (hb : Val v b y) (hk : k = v.length) : Val (v ++ [worthM regs ins v (gAll [a, b])]) k (x && y) :=
  val_new hk (by rw [worth_all]; simp only [List.map_cons, List.map_nil, ha.is, hb.is]; have := of4_bools [x, y]; simpa using this)
theorem new_any2 (ha : Val v a x) (hb : Val v b y) (hk : k = v.length) : Val (v ++ [worthM regs ins v (gAny [a, b])]) k (x || y) :=
  val_new hk (by rw [worth_any]; simp only [List.map_cons, List.map_nil, ha.is, hb.is]; have := of5_bools [x, y]; simpa using this)
theorem new_all3 (ha : Val v a x) (hb : Val v b y) (hc : Val v c z) (hk : k = v.length) : Val (v ++ [worthM regs ins v (gAll [a, b, c])]) k (x && (y && z)) :=
  val_new hk (by rw [worth_all]; simp only [List.map_cons, List.map_nil, ha.is, hb.is, hc.is]; have := of4_bools [x, y, z]; simpa using this)
theorem new_not (ha : Val v a x) (hk : k = v.length) : Val (v ++ [worthM regs ins v (gNot a)]) k (!x) :=
  val_new hk (by simp only [worthM]; simp only [List.map_cons, List.map_nil, ha.is]; cases x <;> rfl)
theorem new_never (hk : k = v.length) : Val (v ++ [worthM regs ins v gNever]) k false := val_new hk rfl
theorem new_reg {n : Nat} (h : valI regs n = bI x) (hk : k = v.length) : Val (v ++ [worthM regs ins v (gReg n)]) k x := val_new hk (by simpa [worthM, gReg] using h)
theorem new_in {n : Nat} (h : valI ins n = bI x) (hk : k = v.length) : Val (v ++ [worthM regs ins v (gIn n)]) k x := val_new hk (by simpa [worthM, gIn] using h)
end
/-! one instant, as the net does it -/
def someV (V : List Bool) : Bool := V.contains true
def stepL (th wa : Int → Bool) : Tr → Bool → List Bool → Bool × List Bool × List Int
  | .leaf x, bg, V =>
    if x.kind = 0 then (bg, [false], [])
    else if x.kind = 3 then (bg, [false], if bg then [x.sig] else [])
    else if x.kind = 1 then (V.headD false, [bg], [])
    else if x.kind = 2 then (false, [bg || V.headD false], [])
    else (V.headD false && th x.sig, [bg || (V.headD false && !th x.sig)], [])
  | .two x a b, bg, V =>
    if x.kind = 5 then
      let A := stepL th wa a bg ((V.drop 1).take a.size)
      let B := stepL th wa b A.1 (V.drop (1 + a.size))
      (B.1, false :: (A.2.1 ++ B.2.1), A.2.2 ++ B.2.2)
    else if x.kind = 6 then
      let A := stepL th wa a bg ((V.drop 1).take a.size)
      let B := stepL th wa b bg (V.drop (1 + a.size))
      ((A.1 || B.1) && ((A.1 || !(bg || someV ((V.drop 1).take a.size))) && (B.1 || !(bg || someV (V.drop (1 + a.size))))), false :: (A.2.1 ++ B.2.1), A.2.2 ++ B.2.2)
    else
      let A := stepL th wa a (bg && choiceM th wa x) ((V.drop 1).take a.size)
      let B := stepL th wa b (bg && !choiceM th wa x) (V.drop (1 + a.size))
      (A.1 || B.1, false :: (A.2.1 ++ B.2.1), A.2.2 ++ B.2.2)
/-- Waits of a tree as they come: none but where one may wait; of a fork's parts, and of parts one behind the other, at most one. -/
inductive RightV : Tr → List Bool → Prop
  | leaf {x : PNode} {v : Bool} : (v = true → waitK x.kind = true) → RightV (.leaf x) [v]
  | two {x : PNode} {a b : Tr} {Va Vb : List Bool} : RightV a Va → RightV b Vb → (x.kind = 6 ∨ someV Va = false ∨ someV Vb = false) → RightV (.two x a b) (false :: (Va ++ Vb))
theorem RightV.len {t : Tr} {V : List Bool} (h : RightV t V) : V.length = t.size := by
  induction h with
  | leaf _ => rfl
  | two _ _ _ h1 h2 => simp [Tr.size, h1, h2]; omega
theorem someV_app (a b : List Bool) : someV (a ++ b) = (someV a || someV b) := by rw [Bool.eq_iff_iff]; simp [someV]
theorem someV_cons (a : List Bool) : someV (false :: a) = someV a := by rw [Bool.eq_iff_iff]; simp [someV]
theorem someV_one (v : Bool) : someV [v] = v := by cases v <;> rfl
theorem someV_zero (n : Nat) : someV (List.replicate n false) = false := by
  rw [Bool.eq_false_iff]; simp [someV]
theorem parts_of {x : PNode} {a b : Tr} {Va Vb : List Bool} (h : RightV a Va) : ((false :: (Va ++ Vb)).drop 1).take a.size = Va ∧ (false :: (Va ++ Vb)).drop (1 + a.size) = Vb := by
  have := h.len
  constructor
  · simp only [List.drop_succ_cons, List.drop_zero]; rw [← this]; simp
  · rw [Nat.add_comm, List.drop_succ_cons, ← this]; simp
theorem right_zero : ∀ t : Tr, RightV t (List.replicate t.size false)
  | .leaf x => .leaf (by simp)
  | .two x a b => by
    have e : List.replicate (Tr.two x a b).size false = false :: (List.replicate a.size false ++ List.replicate b.size false) := by
      rw [List.replicate_append_replicate, ← List.replicate_succ]; congr 1; simp [Tr.size]; omega
    rw [e]; exact .two (right_zero a) (right_zero b) (.inr (.inl (someV_zero _)))
theorem right_none {t : Tr} {V : List Bool} (h : RightV t V) (hs : someV V = false) : V = List.replicate t.size false := by
  rw [← h.len]
  refine List.eq_replicate_iff.2 ⟨rfl, fun b hb => ?_⟩
  cases b with
  | false => rfl
  | true => simp [someV, hb] at hs
section
variable (th wa : Int → Bool)
theorem stepL_idle : ∀ t : Tr, stepL th wa t false (List.replicate t.size false) = (false, List.replicate t.size false, [])
  | .leaf x => by
    simp only [stepL, Tr.size, Bool.false_eq_true, if_false]
    repeat' split
    all_goals rfl
  | .two x a b => by
    have e : List.replicate (Tr.two x a b).size false = false :: (List.replicate a.size false ++ List.replicate b.size false) := by
      rw [List.replicate_append_replicate, ← List.replicate_succ]; congr 1; simp [Tr.size]; omega
    obtain ⟨h1, h2⟩ := parts_of (x := x) (b := b) (Vb := List.replicate b.size false) (right_zero a)
    rw [e]
    simp only [stepL, h1, h2, stepL_idle a, stepL_idle b, Bool.false_and, someV_zero, Bool.or_self, List.append_nil]
    split
    · rfl
    split <;> rfl
theorem stepL_none {t : Tr} {V : List Bool} (h : RightV t V) (hs : someV V = false) : stepL th wa t false V = (false, List.replicate t.size false, []) := by
  rw [right_none h hs]; exact stepL_idle th wa t
/-- Who is over was begun, or waited. -/
theorem stepL_over {t : Tr} {V : List Bool} (h : RightV t V) {bg : Bool} (ho : (stepL th wa t bg V).1 = true) : bg = true ∨ someV V = true := by
  cases bg with
  | true => exact .inl rfl
  | false =>
    cases hs : someV V with
    | true => exact .inr rfl
    | false => rw [stepL_none th wa h hs] at ho; cases ho
/-- Who is over waits nowhere; and what comes is right. -/
theorem stepL_right {t : Tr} {V : List Bool} (h : RightV t V) (hg : ∀ x ∈ t.flat, goodN x) (ok : t.ok) : ∀ {bg : Bool}, ¬ (bg = true ∧ someV V = true) → RightV t (stepL th wa t bg V).2.1 ∧ ((stepL th wa t bg V).1 = true → someV (stepL th wa t bg V).2.1 = false) := by
  induction h with
  | @leaf x v hv =>
    intro bg hb
    rw [someV_one] at hb
    have hx := good_leaf' ok (hg x (by simp [Tr.flat]))
    simp only [stepL, List.headD_cons]
    rcases hx with e | e | e | e | e
    · simp only [e, if_true]; exact ⟨.leaf (by simp), fun _ => rfl⟩
    · simp only [e]; refine ⟨.leaf (fun _ => by simp [waitK, e]), fun h => ?_⟩
      simp only [if_true, show ¬ (1 : Int) = 0 by decide, show ¬ (1 : Int) = 3 by decide, if_false] at h ⊢
      rw [someV_one]; cases bg <;> simp_all
    · simp only [e, if_true, show ¬ (2 : Int) = 0 by decide, show ¬ (2 : Int) = 3 by decide, show ¬ (2 : Int) = 1 by decide, if_false]
      exact ⟨.leaf (fun _ => by simp [waitK, e]), fun h => by cases h⟩
    · simp only [e, if_true, show ¬ (3 : Int) = 0 by decide, if_false]; exact ⟨.leaf (by simp), fun _ => rfl⟩
    · simp only [e, show ¬ (4 : Int) = 0 by decide, show ¬ (4 : Int) = 3 by decide, show ¬ (4 : Int) = 1 by decide, show ¬ (4 : Int) = 2 by decide, if_false]
      refine ⟨.leaf (fun _ => by simp [waitK, e]), fun h => ?_⟩
      rw [someV_one]; cases bg <;> cases v <;> simp_all
  | @two x a b Va Vb ha hb hsole iha ihb =>
    intro bg hbg
    have hgs := sub_good hg
    obtain ⟨p1, p2⟩ := parts_of (x := x) (b := b) (Vb := Vb) ha
    rw [someV_cons, someV_app] at hbg
    have hbg' : bg = true → someV Va = false ∧ someV Vb = false := fun e => by
      subst e; cases h1 : someV Va <;> cases h2 : someV Vb <;> simp_all
    have hd := hgs.1
    simp only [stepL, p1, p2]
    split
    · rename_i k5
      have hso : someV Va = false ∨ someV Vb = false := by rcases hsole with e | e; (rw [k5] at e; cases e); exact e
      have A := @iha hgs.1 ok.2.1 bg (fun h => by have := (hbg' h.1).1; rw [h.2] at this; cases this)
      have hAV : (stepL th wa a bg Va).1 = true → someV Vb = false := fun h => by
        rcases stepL_over th wa ha h with e | e
        · exact (hbg' e).2
        · rcases hso with e2 | e2
          · rw [e] at e2; cases e2
          · exact e2
      have B := @ihb hgs.2 ok.2.2 (stepL th wa a bg Va).1 (fun h => by have := hAV h.1; rw [h.2] at this; cases this)
      generalize hA : stepL th wa a bg Va = ra at *
      obtain ⟨ao, aw, ae⟩ := ra
      simp only at A hAV B ⊢
      have hz : ao = false → someV aw = true → someV (stepL th wa b ao Vb).2.1 = false := fun h1 h2 => by
        subst h1
        cases hvb : someV Vb with
        | false => rw [stepL_none th wa hb hvb]; exact someV_zero _
        | true =>
          have hva : someV Va = false := by rcases hso with e | e; exact e; rw [hvb] at e; cases e
          have hb0 : bg = false := by cases bg with | false => rfl | true => have := (hbg' rfl).2; rw [hvb] at this; cases this
          rw [hb0, stepL_none th wa ha hva] at hA
          simp only [Prod.mk.injEq] at hA
          rw [← hA.2.1, someV_zero] at h2; cases h2
      refine ⟨.two A.1 B.1 (.inr ?_), fun h => ?_⟩
      · cases ao with
        | true => exact .inl (A.2 rfl)
        | false => cases h2 : someV aw with
          | false => exact .inl rfl
          | true => exact .inr (hz rfl h2)
      · rw [someV_cons, someV_app, B.2 h, Bool.or_false]
        cases ao with
        | true => exact A.2 rfl
        | false => cases h2 : someV aw with
          | false => rfl
          | true =>
            rcases stepL_over th wa hb h with e | e
            · cases e
            · have hva : someV Va = false := by rcases hso with e2 | e2; exact e2; rw [e] at e2; cases e2
              have hb0 : bg = false := by cases bg with | false => rfl | true => have := (hbg' rfl).2; rw [e] at this; cases this
              rw [hb0, stepL_none th wa ha hva] at hA
              simp only [Prod.mk.injEq] at hA
              rw [← hA.2.1, someV_zero] at h2; cases h2
    · rename_i k5
      split
      · rename_i k6
        have A := @iha hgs.1 ok.2.1 bg (fun h => by have := (hbg' h.1).1; rw [h.2] at this; cases this)
        have B := @ihb hgs.2 ok.2.2 bg (fun h => by have := (hbg' h.1).2; rw [h.2] at this; cases this)
        refine ⟨.two A.1 B.1 (.inl k6), fun h => ?_⟩
        simp only [Bool.and_eq_true] at h
        obtain ⟨_, h1, h2⟩ := h
        rw [someV_cons, someV_app]
        have e1 : someV (stepL th wa a bg Va).2.1 = false := by
          cases hq : (stepL th wa a bg Va).1 with
          | true => exact A.2 hq
          | false =>
            rw [hq] at h1
            have : bg = false ∧ someV Va = false := by simpa using h1
            rw [this.1, stepL_none th wa ha this.2]; exact someV_zero _
        have e2 : someV (stepL th wa b bg Vb).2.1 = false := by
          cases hq : (stepL th wa b bg Vb).1 with
          | true => exact B.2 hq
          | false =>
            rw [hq] at h2
            have : bg = false ∧ someV Vb = false := by simpa using h2
            rw [this.1, stepL_none th wa hb this.2]; exact someV_zero _
        rw [e1, e2]; rfl
      · rename_i k6
        have hso : someV Va = false ∨ someV Vb = false := by rcases hsole with e | e; exact absurd e k6; exact e
        generalize choiceM th wa x = c
        have A := @iha hgs.1 ok.2.1 (bg && c) (fun h => by
          have h1 : bg = true := by have := h.1; simp at this; exact this.1
          have := (hbg' h1).1; rw [h.2] at this; cases this)
        have B := @ihb hgs.2 ok.2.2 (bg && !c) (fun h => by
          have h1 : bg = true := by have := h.1; simp at this; exact this.1
          have := (hbg' h1).2; rw [h.2] at this; cases this)
        have key : (someV (stepL th wa a (bg && c) Va).2.1 = false ∧ (stepL th wa a (bg && c) Va).1 = false) ∨ (someV (stepL th wa b (bg && !c) Vb).2.1 = false ∧ (stepL th wa b (bg && !c) Vb).1 = false) := by
          cases bg with
          | true =>
            obtain ⟨h1, h2⟩ := hbg' rfl
            cases c with
            | true => right; rw [show (true && !true) = false from rfl, stepL_none th wa hb h2]; exact ⟨someV_zero _, rfl⟩
            | false => left; rw [show (true && false) = false from rfl, stepL_none th wa ha h1]; exact ⟨someV_zero _, rfl⟩
          | false =>
            simp only [Bool.false_and]
            rcases hso with e | e
            · left; rw [stepL_none th wa ha e]; exact ⟨someV_zero _, rfl⟩
            · right; rw [stepL_none th wa hb e]; exact ⟨someV_zero _, rfl⟩
        refine ⟨.two A.1 B.1 (.inr ?_), fun h => ?_⟩
        · rcases key with e | e
          · exact .inl e.1
          · exact .inr e.1
        · rw [someV_cons, someV_app]
          rcases key with e | e
          · rw [e.1, Bool.false_or]; rw [e.2, Bool.false_or] at h; exact B.2 h
          · rw [e.1, Bool.or_false]; rw [e.2, Bool.or_false] at h; exact A.2 h
end
/-! the index walk is that step -/
def emitsO (es : List Int) (O : List Bool) : List Bool := es.foldl (fun O g => O.set g.toNat true) O
theorem emitsO_app (a b : List Int) (O : List Bool) : emitsO (a ++ b) O = emitsO b (emitsO a O) := by simp [emitsO]
theorem set_mid (P Q : List Bool) (v : Bool) (k : Nat) (hk : P.length = k) : (P ++ [v] ++ Q).set k true = P ++ [true] ++ Q := by
  subst hk; simp
section
variable (th wa : Int → Bool)
theorem begin_step : ∀ (t : Tr) (k : Nat) (P Q O : List Bool), P.length = k → t.ok → (∀ x ∈ t.flat, goodN x) →
    beginT th wa t k ⟨P ++ List.replicate t.size false ++ Q, O⟩ = ((stepL th wa t true (List.replicate t.size false)).1, ⟨P ++ (stepL th wa t true (List.replicate t.size false)).2.1 ++ Q, emitsO (stepL th wa t true (List.replicate t.size false)).2.2 O⟩)
  | .leaf x, k, P, Q, O, hP, ok, hg => by
    have hx := good_leaf' ok (hg x (by simp [Tr.flat]))
    have hs := set_mid P Q false k hP
    have hz : List.replicate (Tr.leaf x).size false = [false] := rfl
    rw [hz]
    simp only [beginT, stepL, waitSt, emitSt, List.headD_cons]
    rcases hx with e | e | e | e | e <;> simp only [e] <;> simp [emitsO] <;> simpa using hs
  | .two x a b, k, P, Q, O, hP, ok, hg => by
    have hgs := sub_good hg
    obtain ⟨p1, p2⟩ := parts_of (x := x) (b := b) (Vb := List.replicate b.size false) (right_zero a)
    have e : List.replicate (Tr.two x a b).size false = false :: (List.replicate a.size false ++ List.replicate b.size false) := by
      rw [List.replicate_append_replicate, ← List.replicate_succ]; congr 1; simp [Tr.size]; omega
    have la := (stepL_right th wa (right_zero a) hgs.1 ok.2.1 (bg := true) (fun h => by rw [someV_zero] at h; cases h.2)).1.len
    have ia := begin_step a (k + 1) (P ++ [false]) (List.replicate b.size false ++ Q) O (by simp [hP]) ok.2.1 hgs.1
    have ib := fun O' => begin_step b (k + 1 + a.size) (P ++ [false] ++ (stepL th wa a true (List.replicate a.size false)).2.1) Q O' (by simp [hP, la]; omega) ok.2.2 hgs.2
    have ib0 := begin_step b (k + 1 + a.size) (P ++ [false] ++ List.replicate a.size false) Q O (by simp [hP]; omega) ok.2.2 hgs.2
    have ea : P ++ (false :: (List.replicate a.size false ++ List.replicate b.size false)) ++ Q = P ++ [false] ++ List.replicate a.size false ++ (List.replicate b.size false ++ Q) := by simp only [List.append_assoc, List.cons_append, List.nil_append]
    have eb : P ++ (false :: (List.replicate a.size false ++ List.replicate b.size false)) ++ Q = P ++ [false] ++ List.replicate a.size false ++ List.replicate b.size false ++ Q := by simp only [List.append_assoc, List.cons_append, List.nil_append]
    rw [e]
    simp only [beginT, stepL, p1, p2]
    split
    · rw [ea, ia]
      simp only
      have hmid : ∀ X : List Bool, P ++ [false] ++ X ++ (List.replicate b.size false ++ Q) = P ++ [false] ++ X ++ List.replicate b.size false ++ Q := fun X => by simp
      split
      · rename_i h; rw [hmid, ib]; simp [h, emitsO_app]
      · rename_i h
        have h' : (stepL th wa a true (List.replicate a.size false)).1 = false := by simpa using h
        rw [h', stepL_idle th wa b]; simp
    split
    · rw [ea, ia]
      simp only
      have hmid : ∀ X : List Bool, P ++ [false] ++ X ++ (List.replicate b.size false ++ Q) = P ++ [false] ++ X ++ List.replicate b.size false ++ Q := fun X => by simp
      rw [hmid, ib]
      simp only [someV_zero, Bool.or_false, Bool.not_true, Prod.mk.injEq, StM.mk.injEq, emitsO_app]
      refine ⟨?_, by simp, trivial⟩
      cases (stepL th wa a true (List.replicate a.size false)).1 <;> cases (stepL th wa b true (List.replicate b.size false)).1 <;> rfl
    · cases hc : choiceM th wa x with
      | true =>
        simp only [if_true, Bool.not_true, Bool.and_false, Bool.and_true, stepL_idle th wa b]
        rw [ea, ia]; simp
      | false =>
        simp only [Bool.false_eq_true, if_false, Bool.not_false, Bool.and_false, Bool.and_true, stepL_idle th wa a]
        rw [eb, ib0]; simp
/-- The waits of a part that stands at a place. -/
theorem some_at {U V W : List Bool} {t : Tr} {k : Nat} (hk : U.length = k) (hl : V.length = t.size) : someT (U ++ V ++ W) t k = someV V := by
  subst hk
  simp only [someT, someV, List.append_assoc, List.drop_left', ← hl, List.take_left']
theorem on_step {t : Tr} {V : List Bool} (h : RightV t V) : ∀ (k : Nat) (U T P Q O : List Bool), U.length = k → P.length = k → t.ok → (∀ x ∈ t.flat, goodN x) → someV V = true →
    onT th wa (U ++ V ++ T) t k ⟨P ++ List.replicate t.size false ++ Q, O⟩ = ((stepL th wa t false V).1, ⟨P ++ (stepL th wa t false V).2.1 ++ Q, emitsO (stepL th wa t false V).2.2 O⟩) := by
  induction h with
  | @leaf x v hv =>
    intro k U T P Q O hU hP ok hg hs
    rw [someV_one] at hs; subst hs
    have hw := hv rfl
    have hx := good_leaf' ok (hg x (by simp [Tr.flat]))
    have hset := set_mid P Q false k hP
    have hz : List.replicate (Tr.leaf x).size false = [false] := rfl
    rw [hz]
    simp only [onT, stepL, waitSt, List.headD_cons]
    rcases hx with e | e | e | e | e
    · rw [e] at hw; cases hw
    · simp [e, emitsO]
    · simp [e, emitsO]; simpa using hset
    · rw [e] at hw; cases hw
    · simp only [e]; cases th x.sig <;> simp [emitsO]; simpa using hset
  | @two x a b Va Vb ha hb hsole iha ihb =>
    intro k U T P Q O hU hP ok hg hs
    have hgs := sub_good hg
    obtain ⟨p1, p2⟩ := parts_of (x := x) (b := b) (Vb := Vb) ha
    rw [someV_cons, someV_app] at hs
    have e : List.replicate (Tr.two x a b).size false = false :: (List.replicate a.size false ++ List.replicate b.size false) := by
      rw [List.replicate_append_replicate, ← List.replicate_succ]; congr 1; simp [Tr.size]; omega
    have la := (stepL_right th wa ha hgs.1 ok.2.1 (bg := false) (fun h => by cases h.1)).1.len
    have eU : U ++ (false :: (Va ++ Vb)) ++ T = (U ++ [false]) ++ Va ++ (Vb ++ T) := by simp
    have eU2 : U ++ (false :: (Va ++ Vb)) ++ T = (U ++ [false] ++ Va) ++ Vb ++ T := by simp
    have sa : someT (U ++ (false :: (Va ++ Vb)) ++ T) a (k + 1) = someV Va := by rw [eU]; exact some_at (by simp [hU]) ha.len
    have sb : someT (U ++ (false :: (Va ++ Vb)) ++ T) b (k + 1 + a.size) = someV Vb := by rw [eU2]; exact some_at (by simp [hU, ha.len]; omega) hb.len
    have ia := fun hsa => iha (k + 1) (U ++ [false]) (Vb ++ T) (P ++ [false]) (List.replicate b.size false ++ Q) O (by simp [hU]) (by simp [hP]) ok.2.1 hgs.1 hsa
    have ib := fun O' hsb => ihb (k + 1 + a.size) (U ++ [false] ++ Va) T (P ++ [false] ++ (stepL th wa a false Va).2.1) Q O' (by simp [hU, ha.len]; omega) (by simp [hP, la]; omega) ok.2.2 hgs.2 hsb
    have ib0 := fun hsb => ihb (k + 1 + a.size) (U ++ [false] ++ Va) T (P ++ [false] ++ List.replicate a.size false) Q O (by simp [hU, ha.len]; omega) (by simp [hP]; omega) ok.2.2 hgs.2 hsb
    have bb := fun O' => begin_step th wa b (k + 1 + a.size) (P ++ [false] ++ (stepL th wa a false Va).2.1) Q O' (by simp [hP, la]; omega) ok.2.2 hgs.2
    rw [← eU] at ia
    rw [← eU2] at ib ib0
    have ea : P ++ (false :: (List.replicate a.size false ++ List.replicate b.size false)) ++ Q = P ++ [false] ++ List.replicate a.size false ++ (List.replicate b.size false ++ Q) := by simp only [List.append_assoc, List.cons_append, List.nil_append]
    have eb : P ++ (false :: (List.replicate a.size false ++ List.replicate b.size false)) ++ Q = P ++ [false] ++ List.replicate a.size false ++ List.replicate b.size false ++ Q := by simp only [List.append_assoc, List.cons_append, List.nil_append]
    have hmid : ∀ X : List Bool, P ++ [false] ++ X ++ (List.replicate b.size false ++ Q) = P ++ [false] ++ X ++ List.replicate b.size false ++ Q := fun X => by simp
    rw [e]
    simp only [onT, stepL, p1, p2, sa, sb]
    split
    · rename_i k5
      have hso : someV Va = false ∨ someV Vb = false := by
        rcases hsole with e | e
        · rw [k5] at e; cases e
        · exact e
      cases hsa : someV Va with
      | true =>
        have hsb : someV Vb = false := by
          rcases hso with e | e
          · rw [hsa] at e; cases e
          · exact e
        simp only [if_true]
        rw [ea, ia hsa]
        simp only
        cases ho : (stepL th wa a false Va).1 with
        | true => simp only [if_true]; rw [hmid, bb, right_none hb hsb]; simp [emitsO_app]
        | false => simp only [Bool.false_eq_true, if_false]; rw [stepL_none th wa hb hsb]; simp
      | false =>
        have hsb : someV Vb = true := by rw [hsa, Bool.false_or] at hs; exact hs
        simp only [Bool.false_eq_true, if_false]
        rw [stepL_none th wa ha hsa]
        simp only
        rw [eb, ib0 hsb]; simp
    · rename_i k5
      have hz : (stepL th wa a (false && choiceM th wa x) Va) = stepL th wa a false Va ∧ (stepL th wa b (false && !choiceM th wa x) Vb) = stepL th wa b false Vb := ⟨by rw [Bool.false_and], by rw [Bool.false_and]⟩
      rw [hz.1, hz.2]
      have hres : (if x.kind = 6 then
            (((stepL th wa a false Va).1 || (stepL th wa b false Vb).1) && (((stepL th wa a false Va).1 || !(false || someV Va)) && ((stepL th wa b false Vb).1 || !(false || someV Vb))), false :: ((stepL th wa a false Va).2.1 ++ (stepL th wa b false Vb).2.1), (stepL th wa a false Va).2.2 ++ (stepL th wa b false Vb).2.2)
          else ((stepL th wa a false Va).1 || (stepL th wa b false Vb).1, false :: ((stepL th wa a false Va).2.1 ++ (stepL th wa b false Vb).2.1), (stepL th wa a false Va).2.2 ++ (stepL th wa b false Vb).2.2)) =
          ((if someV Va then (if someV Vb then (stepL th wa a false Va).1 && (stepL th wa b false Vb).1 else (stepL th wa a false Va).1) else (stepL th wa b false Vb).1), false :: ((stepL th wa a false Va).2.1 ++ (stepL th wa b false Vb).2.1), (stepL th wa a false Va).2.2 ++ (stepL th wa b false Vb).2.2) := by
        cases hsa : someV Va with
        | true =>
          cases hsb : someV Vb with
          | true =>
            have k6 : x.kind = 6 := by
              rcases hsole with e | e | e
              · exact e
              · rw [hsa] at e; cases e
              · rw [hsb] at e; cases e
            rw [if_pos k6]
            cases (stepL th wa a false Va).1 <;> cases (stepL th wa b false Vb).1 <;> rfl
          | false =>
            rw [stepL_none th wa hb hsb]
            split <;> cases (stepL th wa a false Va).1 <;> rfl
        | false =>
          have hsb : someV Vb = true := by rw [hsa, Bool.false_or] at hs; exact hs
          rw [stepL_none th wa ha hsa, hsb]
          split <;> cases (stepL th wa b false Vb).1 <;> rfl
      rw [hres]
      cases hsa : someV Va with
      | true =>
        simp only [if_true]
        cases hsb : someV Vb with
        | true =>
          simp only [if_true]
          rw [ea, ia hsa]
          simp only
          rw [hmid, ib _ hsb]
          simp [emitsO_app]
        | false =>
          simp only [Bool.false_eq_true, if_false]
          rw [ea, ia hsa, stepL_none th wa hb hsb]
          simp
      | false =>
        have hsb : someV Vb = true := by rw [hsa, Bool.false_or] at hs; exact hs
        simp only [Bool.false_eq_true, if_false, hsb, if_true]
        rw [stepL_none th wa ha hsa]
        simp only
        rw [eb, ib0 hsb]; simp
end
theorem turn_step {t : Tr} {r : RestM} {ins : Int} (h : RightV t r.waits) (hf : r.fresh = true → someV r.waits = false) (ok : t.ok) (hg : ∀ x ∈ t.flat, goodN x) :
    turnM t r ins = ((stepL (thereM ins) (wasM r.outs) t r.fresh r.waits).1, ⟨(stepL (thereM ins) (wasM r.outs) t r.fresh r.waits).2.1, emitsO (stepL (thereM ins) (wasM r.outs) t r.fresh r.waits).2.2 [false, false, false]⟩) := by
  unfold turnM
  cases hr : r.fresh with
  | true =>
    simp only [if_true]
    have := begin_step (thereM ins) (wasM r.outs) t 0 [] [] [false, false, false] rfl ok hg
    simp only [List.nil_append, List.append_nil] at this
    rw [this, right_none h (hf hr)]
  | false =>
    have hs : someT r.waits t 0 = someV r.waits := by have := some_at (U := []) (V := r.waits) (W := []) (t := t) (k := 0) rfl h.len; simpa using this
    simp only [Bool.false_eq_true, if_false, hs]
    cases hv : someV r.waits with
    | true =>
      simp only [if_true]
      have := on_step (thereM ins) (wasM r.outs) h 0 [] [] [] [] [false, false, false] rfl rfl ok hg hv
      simp only [List.nil_append, List.append_nil] at this
      rw [this]
    | false =>
      simp only [Bool.false_eq_true, if_false]
      rw [stepL_none _ _ h hv]; rfl
end Go.Proofs.Ytlafiddfplhafaa
/- A program's net tells, at one instant, what the program tells. Plain Lean. -/
namespace Go.Proofs.Ytlafiddfplhafaa
set_option linter.unusedVariables false
set_option linter.unusedSimpArgs false
def projT : Tr → List Bool → List Bool
  | .leaf x, V => if waitK x.kind then V else []
  | .two _ a b, V => projT a ((V.drop 1).take a.size) ++ projT b (V.drop (1 + a.size))
def nW : Tr → Nat
  | .leaf x => if waitK x.kind then 1 else 0
  | .two _ a b => nW a + nW b
theorem proj_len : ∀ (t : Tr) (V : List Bool), V.length = t.size → (projT t V).length = nW t
  | .leaf x, V, h => by simp only [projT, nW]; split <;> simp_all [Tr.size]
  | .two x a b, V, h => by
    simp only [Tr.size] at h
    simp only [projT, nW, List.length_append]
    rw [proj_len a _ (by simp; omega), proj_len b _ (by simp; omega)]
theorem proj_zero : ∀ t : Tr, projT t (List.replicate t.size false) = List.replicate (nW t) false
  | .leaf x => by simp only [projT, nW, Tr.size]; split <;> rfl
  | .two x a b => by
    simp only [projT, nW, Tr.size]
    have e1 : ((List.replicate (1 + a.size + b.size) false).drop 1).take a.size = List.replicate a.size false := by simp; omega
    have e2 : (List.replicate (1 + a.size + b.size) false).drop (1 + a.size) = List.replicate b.size false := by simp
    rw [e1, e2, proj_zero a, proj_zero b, List.replicate_append_replicate]
theorem stepL_len (th wa : Int → Bool) : ∀ (t : Tr) (bg : Bool) (V : List Bool), (stepL th wa t bg V).2.1.length = t.size
  | .leaf x, bg, V => by simp only [stepL]; repeat' split
                         all_goals rfl
  | .two x a b, bg, V => by
    simp only [stepL, Tr.size]
    split
    · simp [stepL_len th wa a, stepL_len th wa b] <;> omega
    split <;> simp [stepL_len th wa a, stepL_len th wa b] <;> omega
theorem nW_le : ∀ t : Tr, nW t ≤ t.size
  | .leaf x => by simp only [nW, Tr.size]; split <;> omega
  | .two x a b => by have := nW_le a; have := nW_le b; simp only [nW, Tr.size]; omega
/-! ranges and forms -/
def FormG (rn : Nat) (x : GateM) : Prop :=
  (x.kind = 0 ∧ x.num = 0 ∧ x.args = []) ∨ (x.kind = 2 ∧ 0 ≤ x.num ∧ x.num ≤ 2 ∧ x.args = []) ∨ (x.kind = 3 ∧ 0 ≤ x.num ∧ x.num < rn ∧ x.args = []) ∨
  ((x.kind = 4 ∨ x.kind = 5) ∧ x.num = 0) ∨ (x.kind = 6 ∧ x.num = 0 ∧ x.args.length = 1)
def Ahead (rn : Nat) : Nat → List GateM → Prop
  | _, [] => True
  | k, x :: l => (FormG rn x ∧ x.args.length ≤ 16 ∧ ∀ a ∈ x.args, 0 ≤ a ∧ a < k) ∧ Ahead rn (k + 1) l
theorem Ahead.append {rn : Nat} : ∀ {l m : List GateM} {k : Nat}, Ahead rn k l → Ahead rn (k + l.length) m → Ahead rn k (l ++ m)
  | [], m, k, _, h => by simpa using h
  | x :: l, m, k, h, g => ⟨h.1, Ahead.append h.2 (by rw [show k + 1 + l.length = k + (x :: l).length from by simp; omega]; exact g)⟩
theorem FormG.mono {rn rm : Nat} (h : rn ≤ rm) {x : GateM} (f : FormG rn x) : FormG rm x := by
  rcases f with f | f | ⟨f1, f2, f3, f4⟩ | f | f
  · exact .inl f
  · exact .inr (.inl f)
  · exact .inr (.inr (.inl ⟨f1, f2, by omega, f4⟩))
  · exact .inr (.inr (.inr (.inl f)))
  · exact .inr (.inr (.inr (.inr f)))
theorem Ahead.mono {rn rm : Nat} (h : rn ≤ rm) : ∀ {l : List GateM} {k : Nat}, Ahead rn k l → Ahead rm k l
  | [], _, _ => trivial
  | x :: l, k, f => ⟨⟨f.1.1.mono h, f.1.2⟩, Ahead.mono h f.2⟩
theorem Ahead.get {rn : Nat} : ∀ {l : List GateM} {k : Nat}, Ahead rn k l → ∀ (j : Nat) (x : GateM), l[j]? = some x → FormG rn x ∧ x.args.length ≤ 16 ∧ ∀ a ∈ x.args, 0 ≤ a ∧ a < ((k + j : Nat) : Int)
  | [], _, _, j, x, h => by simp at h
  | y :: l, k, f, 0, x, h => by simp at h; subst h; simpa using f.1
  | y :: l, k, f, j + 1, x, h => by have := Ahead.get f.2 j x (by simpa using h); rwa [show k + 1 + j = k + (j + 1) from by omega] at this
theorem ahead_all {rn k : Nat} {a b : Int} {l : List GateM} (ha : 0 ≤ a ∧ a < k) (hb : 0 ≤ b ∧ b < k) (h : Ahead rn (k + 1) l) : Ahead rn k (gAll [a, b] :: l) :=
  ⟨⟨.inr (.inr (.inr (.inl ⟨.inl rfl, rfl⟩))), by simp, by simp; exact ⟨ha, hb⟩⟩, h⟩
theorem ahead_any {rn k : Nat} {a b : Int} {l : List GateM} (ha : 0 ≤ a ∧ a < k) (hb : 0 ≤ b ∧ b < k) (h : Ahead rn (k + 1) l) : Ahead rn k (gAny [a, b] :: l) :=
  ⟨⟨.inr (.inr (.inr (.inl ⟨.inr rfl, rfl⟩))), by simp, by simp; exact ⟨ha, hb⟩⟩, h⟩
theorem ahead_all3 {rn k : Nat} {a b c : Int} {l : List GateM} (ha : 0 ≤ a ∧ a < k) (hb : 0 ≤ b ∧ b < k) (hc : 0 ≤ c ∧ c < k) (h : Ahead rn (k + 1) l) : Ahead rn k (gAll [a, b, c] :: l) :=
  ⟨⟨.inr (.inr (.inr (.inl ⟨.inl rfl, rfl⟩))), by simp, by simp; exact ⟨ha, hb, hc⟩⟩, h⟩
theorem ahead_not {rn k : Nat} {a : Int} {l : List GateM} (ha : 0 ≤ a ∧ a < k) (h : Ahead rn (k + 1) l) : Ahead rn k (gNot a :: l) :=
  ⟨⟨.inr (.inr (.inr (.inr ⟨rfl, rfl, rfl⟩))), by simp, by simp; exact ha⟩, h⟩
theorem ahead_never {rn k : Nat} {l : List GateM} (h : Ahead rn (k + 1) l) : Ahead rn k (gNever :: l) := ⟨⟨.inl ⟨rfl, rfl, rfl⟩, by simp, by simp⟩, h⟩
theorem ahead_reg {rn k n : Nat} {l : List GateM} (hn : n < rn) (h : Ahead rn (k + 1) l) : Ahead rn k (gReg n :: l) :=
  ⟨⟨.inr (.inr (.inl ⟨rfl, by simp, by simp; omega, rfl⟩)), by simp, by simp⟩, h⟩
theorem ahead_in {rn k n : Nat} {l : List GateM} (hn : n ≤ 2) (h : Ahead rn (k + 1) l) : Ahead rn k (gIn n :: l) :=
  ⟨⟨.inr (.inl ⟨rfl, by simp, by simp; omega, rfl⟩), by simp, by simp⟩, h⟩
/-- What a node brings is in range. -/
structure FOk (t : Tr) (g r : Nat) (o : OutF) : Prop where
  regs : o.R.length = nW t
  nexts : ∀ x ∈ o.R, x.fst = false ∧ 0 ≤ x.next ∧ x.next < (g + o.G.length : Nat)
  over : 0 ≤ o.over ∧ o.over < (g + o.G.length : Nat)
  some : 0 ≤ o.some ∧ o.some < (g + o.G.length : Nat)
  emits : ∀ e ∈ o.E, (e.1 = 0 ∨ e.1 = 1 ∨ e.1 = 2) ∧ 0 ≤ e.2 ∧ e.2 < (g + o.G.length : Nat)
  ahead : Ahead (r + nW t) g o.G
  size : o.G.length ≤ 9 * t.size
  few : o.E.length ≤ t.size
theorem leaf_sig {x : PNode} (hg : goodN x) : 0 ≤ x.sig ∧ x.sig ≤ 2 := by
  have := hg.2
  simp only [badSig, Bool.or_eq_false_iff, decide_eq_false_iff_not, signsM] at this
  obtain ⟨h1, h2⟩ := this
  split at h2
  · simp at h2; omega
  · split at h2 <;> simp at h2 <;> omega
theorem nodeF_ok : ∀ (t : Tr) (g r : Nat) (bg : Int), t.ok → (∀ x ∈ t.flat, goodN x) → 8 ≤ g → 0 ≤ bg → bg < g → FOk t g r (nodeF t g r bg)
  | .leaf x, g, r, bg, ok, hg, h8, b0, b1 => by
    have hx := hg x (by simp [Tr.flat])
    have hs := leaf_sig hx
    have hi : 0 ≤ insG x.sig ∧ insG x.sig < 3 := by unfold insG; omega
    rcases good_leaf' ok hx with e | e | e | e | e
    · simp only [nodeF, e, if_true]
      exact ⟨by simp [nW, waitK, e], by simp, by simp; omega, by simp; omega, by simp, ahead_never trivial, by simp [Tr.size], by simp⟩
    · simp only [nodeF, e, if_true, show ¬ (1 : Int) = 0 by decide, show ¬ (1 : Int) = 3 by decide, if_false]
      exact ⟨by simp [nW, waitK, e], by simp; omega, by simp; omega, by simp; omega, by simp, ahead_reg (by simp [nW, waitK, e]) trivial, by simp [Tr.size], by simp⟩
    · simp only [nodeF, e, if_true, show ¬ (2 : Int) = 0 by decide, show ¬ (2 : Int) = 3 by decide, show ¬ (2 : Int) = 1 by decide, if_false]
      exact ⟨by simp [nW, waitK, e], by simp; omega, by simp; omega, by simp; omega, by simp, ahead_reg (by simp [nW, waitK, e]) (ahead_any ⟨b0, by omega⟩ (by omega) (ahead_never trivial)), by simp [Tr.size], by simp⟩
    · simp only [nodeF, e, if_true, show ¬ (3 : Int) = 0 by decide, if_false]
      exact ⟨by simp [nW, waitK, e], by simp, by simp; omega, by simp; omega, by simp; omega, ahead_never trivial, by simp [Tr.size], by simp [Tr.size]⟩
    · simp only [nodeF, e, show ¬ (4 : Int) = 0 by decide, show ¬ (4 : Int) = 3 by decide, show ¬ (4 : Int) = 1 by decide, show ¬ (4 : Int) = 2 by decide, if_false]
      exact ⟨by simp [nW, waitK, e], by simp; omega, by simp; omega, by simp; omega, by simp,
        ahead_reg (by simp [nW, waitK, e]) (ahead_not (by omega) (ahead_all (by omega) (by omega) (ahead_any (by omega) (by omega) (ahead_all (by omega) (by omega) trivial)))), by simp [Tr.size], by simp⟩
  | .two x a b, g, r, bg, ok, hg, h8, b0, b1 => by
    have hgs := sub_good hg
    have hx := hg x (by simp [Tr.flat])
    have hs := leaf_sig hx
    have hi : 0 ≤ isG x ∧ isG x < 8 := by unfold isG insG wasG; split <;> omega
    by_cases k5 : x.kind = 5
    · simp only [nodeF, if_pos k5]
      have A := nodeF_ok a g r bg ok.2.1 hgs.1 h8 b0 b1
      generalize nodeF a g r bg = oa at *
      have B := nodeF_ok b (g + oa.G.length) (r + oa.R.length) oa.over ok.2.2 hgs.2 (by omega) A.over.1 A.over.2
      generalize nodeF b (g + oa.G.length) (r + oa.R.length) oa.over = ob at *
      have Ar := A.regs; have Br := B.regs; have Ao := A.over; have Bo := B.over; have As := A.some; have Bs := B.some
      refine ⟨by simp [nW, A.regs, B.regs], fun y hy => ?_, by simp; omega, by simp; omega, fun e he => ?_, ?_, ?_, ?_⟩
      · rcases List.mem_append.1 hy with h | h
        · have := A.nexts y h; exact ⟨this.1, this.2.1, by simp; omega⟩
        · have := B.nexts y h; exact ⟨this.1, this.2.1, by simp; omega⟩
      · rcases List.mem_append.1 he with h | h
        · have := A.emits e h; exact ⟨this.1, this.2.1, by simp; omega⟩
        · have := B.emits e h; exact ⟨this.1, this.2.1, by simp; omega⟩
      · exact (A.ahead.mono (by simp [nW] <;> omega)).append ((B.ahead.mono (by simp [nW] <;> omega)).append (ahead_any (by omega) (by omega) trivial))
      · have := A.size; have := B.size; simp [Tr.size] <;> omega
      · have := A.few; have := B.few; simp [Tr.size] <;> omega
    by_cases k6 : x.kind = 6
    · simp only [nodeF, if_neg k5, if_pos k6]
      have A := nodeF_ok a g r bg ok.2.1 hgs.1 h8 b0 b1
      generalize nodeF a g r bg = oa at *
      have B := nodeF_ok b (g + oa.G.length) (r + oa.R.length) bg ok.2.2 hgs.2 (by omega) b0 (by omega)
      generalize nodeF b (g + oa.G.length) (r + oa.R.length) bg = ob at *
      have Ar := A.regs; have Br := B.regs; have Ao := A.over; have Bo := B.over; have As := A.some; have Bs := B.some
      refine ⟨by simp [nW, A.regs, B.regs], fun y hy => ?_, by simp; omega, by simp; omega, fun e he => ?_, ?_, ?_, ?_⟩
      · rcases List.mem_append.1 hy with h | h
        · have := A.nexts y h; exact ⟨this.1, this.2.1, by simp; omega⟩
        · have := B.nexts y h; exact ⟨this.1, this.2.1, by simp; omega⟩
      · rcases List.mem_append.1 he with h | h
        · have := A.emits e h; exact ⟨this.1, this.2.1, by simp; omega⟩
        · have := B.emits e h; exact ⟨this.1, this.2.1, by simp; omega⟩
      · refine (A.ahead.mono (by simp [nW] <;> omega)).append ((B.ahead.mono (by simp [nW] <;> omega)).append ?_)
        exact ahead_any (by omega) (by omega) (ahead_any (by omega) (by omega) (ahead_not (by omega) (ahead_any (by omega) (by omega) (ahead_any (by omega) (by omega) (ahead_not (by omega) (ahead_any (by omega) (by omega) (ahead_all3 (by omega) (by omega) (by omega) (ahead_any (by omega) (by omega) trivial))))))))
      · have := A.size; have := B.size; simp [Tr.size] <;> omega
      · have := A.few; have := B.few; simp [Tr.size] <;> omega
    · simp only [nodeF, if_neg k5, if_neg k6]
      have A := nodeF_ok a (g + 1) r g ok.2.1 hgs.1 (by omega) (by omega) (by omega)
      generalize nodeF a (g + 1) r g = oa at *
      have B := nodeF_ok b (g + 1 + oa.G.length + 2) (r + oa.R.length) ((g + 1 + oa.G.length : Nat) + 1) ok.2.2 hgs.2 (by omega) (by omega) (by omega)
      generalize nodeF b (g + 1 + oa.G.length + 2) (r + oa.R.length) ((g + 1 + oa.G.length : Nat) + 1) = ob at *
      have Ar := A.regs; have Br := B.regs; have Ao := A.over; have Bo := B.over; have As := A.some; have Bs := B.some
      refine ⟨by simp [nW, A.regs, B.regs], fun y hy => ?_, by simp; omega, by simp; omega, fun e he => ?_, ?_, ?_, ?_⟩
      · rcases List.mem_append.1 hy with h | h
        · have := A.nexts y h; exact ⟨this.1, this.2.1, by simp; omega⟩
        · have := B.nexts y h; exact ⟨this.1, this.2.1, by simp; omega⟩
      · rcases List.mem_append.1 he with h | h
        · have := A.emits e h; exact ⟨this.1, this.2.1, by simp; omega⟩
        · have := B.emits e h; exact ⟨this.1, this.2.1, by simp; omega⟩
      · refine ahead_all (by omega) (by omega) ((A.ahead.mono (by simp [nW] <;> omega)).append (Ahead.append (ahead_not (by omega) (ahead_all (by omega) (by omega) trivial)) ((B.ahead.mono (by simp [nW] <;> omega)).append ?_)))
        exact ahead_any (by simp; omega) (by simp; omega) (ahead_any (by simp; omega) (by simp; omega) trivial)
      · have := A.size; have := B.size; simp [Tr.size] <;> omega
      · have := A.few; have := B.few; simp [Tr.size] <;> omega
/-! what is told -/
def AllVal (v : List Int) : List StoreM → List Bool → Prop
  | [], [] => True
  | y :: R, x :: P => Val v y.next x ∧ AllVal v R P
  | _, _ => False
theorem AllVal.append {v : List Int} : ∀ {R R' : List StoreM} {P P' : List Bool}, AllVal v R P → AllVal v R' P' → AllVal v (R ++ R') (P ++ P')
  | [], _, [], _, _, h => h
  | [], _, _ :: _, _, h, _ => h.elim
  | _ :: _, _, [], _, h, _ => h.elim
  | _ :: _, _, _ :: _, _, h, g => ⟨h.1, AllVal.append h.2 g⟩
theorem AllVal.ev {regs ins v : List Int} {l : List GateM} : ∀ {R : List StoreM} {P : List Bool}, AllVal v R P → AllVal (evG regs ins l v) R P
  | [], [], h => h
  | [], _ :: _, h => h.elim
  | _ :: _, [], h => h.elim
  | _ :: _, _ :: _, h => ⟨h.1.ev _ _ _, AllVal.ev h.2⟩
theorem AllVal.map {v : List Int} : ∀ {R : List StoreM} {P : List Bool}, AllVal v R P → R.map (fun y => valI v y.next) = P.map bI
  | [], [], _ => rfl
  | [], _ :: _, h => h.elim
  | _ :: _, [], h => h.elim
  | y :: R, x :: P, h => by simp [h.1.is, AllVal.map h.2]
def RegsAt (RV : List Int) (r : Nat) (P : List Bool) : Prop := ∀ (j : Nat) (x : Bool), P[j]? = some x → valI RV ((r + j : Nat) : Int) = bI x
theorem RegsAt.left {RV : List Int} {r : Nat} {P Q : List Bool} (h : RegsAt RV r (P ++ Q)) : RegsAt RV r P := fun j x hj => h j x (by rw [List.getElem?_append_left (List.getElem?_eq_some_iff.1 hj).1]; exact hj)
theorem RegsAt.right {RV : List Int} {r : Nat} {P Q : List Bool} (h : RegsAt RV r (P ++ Q)) : RegsAt RV (r + P.length) Q := fun j x hj => by
  rw [show r + P.length + j = r + (P.length + j) from by omega]
  exact h (P.length + j) x (by rw [List.getElem?_append_right (by omega), Nat.add_sub_cancel_left]; exact hj)
structure EmitsOK (v : List Int) (E : List (Int × Int)) (es : List Int) : Prop where
  iff : ∀ s : Int, (∃ e ∈ E, e.1 = s ∧ Val v e.2 true) ↔ s ∈ es
  bool : ∀ e ∈ E, ∃ x, Val v e.2 x
theorem EmitsOK.append {v : List Int} {E F : List (Int × Int)} {es fs : List Int} (h : EmitsOK v E es) (g : EmitsOK v F fs) : EmitsOK v (E ++ F) (es ++ fs) := by
  refine ⟨fun s => ?_, fun e he => ?_⟩
  · rw [List.mem_append, ← h.iff, ← g.iff]
    constructor
    · rintro ⟨e, he, h2⟩
      rcases List.mem_append.1 he with h3 | h3
      · exact .inl ⟨e, h3, h2⟩
      · exact .inr ⟨e, h3, h2⟩
    · rintro (⟨e, he, h2⟩ | ⟨e, he, h2⟩)
      · exact ⟨e, by simp [he], h2⟩
      · exact ⟨e, by simp [he], h2⟩
  · rcases List.mem_append.1 he with h3 | h3
    · exact h.bool e h3
    · exact g.bool e h3
theorem EmitsOK.nil (v : List Int) : EmitsOK v [] [] := ⟨by simp, by simp⟩
theorem EmitsOK.ev {regs ins v : List Int} {l : List GateM} {E : List (Int × Int)} {es : List Int} (h : EmitsOK v E es) : EmitsOK (evG regs ins l v) E es := by
  refine ⟨fun s => ?_, fun e he => ?_⟩
  · rw [← h.iff]
    constructor
    · rintro ⟨e, he, h1, h2⟩
      obtain ⟨x, hx⟩ := h.bool e he
      have : x = true := (hx.ev regs ins l).eq h2
      subst this; exact ⟨e, he, h1, hx⟩
    · rintro ⟨e, he, h1, h2⟩
      exact ⟨e, he, h1, h2.ev _ _ _⟩
  · obtain ⟨x, hx⟩ := h.bool e he
    exact ⟨x, hx.ev _ _ _⟩
structure Told1 (v : List Int) (o : OutF) (t : Tr) (sm : Bool) (L : Bool × List Bool × List Int) : Prop where
  over : Val v o.over L.1
  some : Val v o.some sm
  regs : AllVal v o.R (projT t L.2.1)
  emits : EmitsOK v o.E L.2.2
theorem evG_cons (regs ins : List Int) (g : GateM) (l : List GateM) (v : List Int) : evG regs ins (g :: l) v = evG regs ins l (v ++ [worthM regs ins v g]) := rfl
theorem nodeF_told {RV INS : List Int} {th wa : Int → Bool} : ∀ (t : Tr) (g r : Nat) (bg : Int) (V : List Bool) (v : List Int) (b : Bool), t.ok → (∀ x ∈ t.flat, goodN x) → 8 ≤ g → v.length = g → Val v bg b →
    (∀ s : Int, 0 ≤ s → s ≤ 2 → Val v (insG s) (th s)) → (∀ s : Int, 0 ≤ s → s ≤ 2 → Val v (wasG s) (wa s)) → RightV t V → RegsAt RV r (projT t V) →
    Told1 (evG RV INS (nodeF t g r bg).G v) (nodeF t g r bg) t (someV V) (stepL th wa t b V)
  | .leaf x, g, r, bg, V, v, b, ok, hg, h8, hv, hb, hin, hwa, hr, hregs => by
    have hx := hg x (by simp [Tr.flat])
    have hs := leaf_sig hx
    have hi := hin x.sig hs.1 hs.2
    cases hr with
    | @leaf _ u hu =>
    rw [someV_one]
    have hV : waitK x.kind = true → valI RV r = bI u := fun hw => hregs 0 u (by simp [projT, hw])
    have hn : waitK x.kind = false → u = false := fun hw => by
      cases u with
      | false => rfl
      | true => have := hu rfl; rw [hw] at this; cases this
    rcases good_leaf' ok hx with e | e | e | e | e
    · have hu0 := hn (by simp [waitK, e]); subst hu0
      simp only [nodeF, stepL, e, if_true, evG]
      refine ⟨hb.app _, new_never (by show (g : Int) = _; omega), by simp [projT, waitK, e, AllVal], .nil _⟩
    · have hV := hV (by simp [waitK, e])
      simp only [nodeF, stepL, e, if_true, show ¬ (1 : Int) = 0 by decide, show ¬ (1 : Int) = 3 by decide, if_false, evG]
      have h1 := new_reg (regs := RV) (ins := INS) (v := v) (k := (g : Int)) hV (by omega)
      refine ⟨h1, h1, ?_, .nil _⟩
      simp only [projT, waitK, e]
      exact ⟨hb.app _, trivial⟩
    · have hV := hV (by simp [waitK, e])
      simp only [nodeF, stepL, e, if_true, show ¬ (2 : Int) = 0 by decide, show ¬ (2 : Int) = 3 by decide, show ¬ (2 : Int) = 1 by decide, if_false, evG]
      have h1 := new_reg (regs := RV) (ins := INS) (v := v) (k := (g : Int)) hV (by omega)
      generalize hq : v ++ [worthM RV INS v (gReg r)] = v1 at *
      have l1 : v1.length = g + 1 := by rw [← hq]; simp [hv]
      have hb1 : Val v1 bg b := by rw [← hq]; exact hb.app _
      have h2 := new_any2 (regs := RV) (ins := INS) (k := (g : Int) + 1) hb1 h1 (by omega)
      have h1' := h1.app [worthM RV INS v1 (gAny [bg, g])]
      generalize hq2 : v1 ++ [worthM RV INS v1 (gAny [bg, g])] = v2 at *
      have l2 : v2.length = g + 2 := by rw [← hq2]; simp [l1]
      refine ⟨new_never (by show (g : Int) + 2 = _; omega), h1'.app _, ?_, .nil _⟩
      simp only [projT, waitK, e]
      exact ⟨h2.app _, trivial⟩
    · have hu0 := hn (by simp [waitK, e]); subst hu0
      simp only [nodeF, stepL, e, if_true, show ¬ (3 : Int) = 0 by decide, if_false, evG]
      have hb' := hb.app [worthM RV INS v gNever]
      refine ⟨hb', new_never (by show (g : Int) = _; omega), by simp [projT, waitK, e, AllVal], ⟨fun s => ?_, fun y hy => by simp at hy; subst hy; exact ⟨b, hb'⟩⟩⟩
      constructor
      · rintro ⟨y, hy, h1, h2⟩
        simp at hy; subst hy
        have := h2.eq hb'; subst this; simp at h1; simp [h1]
      · intro h
        cases b with
        | false => simp at h
        | true => simp at h; exact ⟨(x.sig, bg), by simp, h.symm, hb'⟩
    · have hV := hV (by simp [waitK, e])
      simp only [nodeF, stepL, e, show ¬ (4 : Int) = 0 by decide, show ¬ (4 : Int) = 3 by decide, show ¬ (4 : Int) = 1 by decide, show ¬ (4 : Int) = 2 by decide, if_false, evG]
      have h1 := new_reg (regs := RV) (ins := INS) (v := v) (k := (g : Int)) hV (by omega)
      have hb1 := hb.app [worthM RV INS v (gReg r)]
      have hi1 := hi.app [worthM RV INS v (gReg r)]
      generalize hq : v ++ [worthM RV INS v (gReg r)] = v1 at *
      have l1 : v1.length = g + 1 := by rw [← hq]; simp [hv]
      have h2 := new_not (regs := RV) (ins := INS) (k := (g : Int) + 1) hi1 (by omega)
      have h12 := h1.app [worthM RV INS v1 (gNot (insG x.sig))]
      have hb2 := hb1.app [worthM RV INS v1 (gNot (insG x.sig))]
      have hi2 := hi1.app [worthM RV INS v1 (gNot (insG x.sig))]
      generalize hq2 : v1 ++ [worthM RV INS v1 (gNot (insG x.sig))] = v2 at *
      have l2 : v2.length = g + 2 := by rw [← hq2]; simp [l1]
      have h3 := new_all2 (regs := RV) (ins := INS) (k := (g : Int) + 2) h12 h2 (by omega)
      have h13 := h12.app [worthM RV INS v2 (gAll [(g : Int), (g : Int) + 1])]
      have hb3 := hb2.app [worthM RV INS v2 (gAll [(g : Int), (g : Int) + 1])]
      have hi3 := hi2.app [worthM RV INS v2 (gAll [(g : Int), (g : Int) + 1])]
      generalize hq3 : v2 ++ [worthM RV INS v2 (gAll [(g : Int), (g : Int) + 1])] = v3 at *
      have l3 : v3.length = g + 3 := by rw [← hq3]; simp [l2]
      have h4 := new_any2 (regs := RV) (ins := INS) (k := (g : Int) + 3) hb3 h3 (by omega)
      have h14 := h13.app [worthM RV INS v3 (gAny [bg, (g : Int) + 2])]
      have hi4 := hi3.app [worthM RV INS v3 (gAny [bg, (g : Int) + 2])]
      generalize hq4 : v3 ++ [worthM RV INS v3 (gAny [bg, (g : Int) + 2])] = v4 at *
      have l4 : v4.length = g + 4 := by rw [← hq4]; simp [l3]
      have h5 := new_all2 (regs := RV) (ins := INS) (k := (g : Int) + 4) h14 hi4 (by omega)
      refine ⟨h5, h14.app _, ?_, .nil _⟩
      simp only [projT, waitK, e]
      exact ⟨h4.app _, trivial⟩
  | .two x a b, g, r, bg, V, v, bb, ok, hg, h8, hv, hb, hin, hwa, hr, hregs => by
    have hgs := sub_good hg
    have hx := hg x (by simp [Tr.flat])
    have hs := leaf_sig hx
    cases hr with
    | @two _ _ _ Va Vb ha hb' hsole =>
    obtain ⟨p1, p2⟩ := parts_of (x := x) (b := b) (Vb := Vb) ha
    simp only [projT, p1, p2] at hregs
    have hra := hregs.left
    have hrb := hregs.right
    rw [proj_len a Va ha.len] at hrb
    rw [someV_cons, someV_app]
    have proj_two : ∀ (A B : List Bool), A.length = a.size → projT (.two x a b) (false :: (A ++ B)) = projT a A ++ projT b B := fun A B hA => by
      simp only [projT]
      congr 1
      · simp only [List.drop_succ_cons, List.drop_zero]; rw [← hA]; simp
      · rw [Nat.add_comm, List.drop_succ_cons, ← hA]; simp
    by_cases k5 : x.kind = 5
    · simp only [nodeF, stepL, if_pos k5, p1, p2]
      have fa := nodeF_ok a g r bg ok.2.1 hgs.1 h8 hb.lo (by have := hb.hi; omega)
      have A := nodeF_told (RV := RV) (INS := INS) (th := th) (wa := wa) a g r bg Va v bb ok.2.1 hgs.1 h8 hv hb hin hwa ha hra
      have la := stepL_len th wa a bb Va
      generalize nodeF a g r bg = oa at *
      generalize stepL th wa a bb Va = La at *
      have l1 : (evG RV INS oa.G v).length = g + oa.G.length := by rw [evG_len, hv]
      have hin1 := fun s h0 h1 => (hin s h0 h1).ev RV INS oa.G
      have hwa1 := fun s h0 h1 => (hwa s h0 h1).ev RV INS oa.G
      rw [evG_append, evG_append]
      generalize evG RV INS oa.G v = v1 at *
      have B := nodeF_told (RV := RV) (INS := INS) (th := th) (wa := wa) b (g + oa.G.length) (r + oa.R.length) oa.over Vb v1 La.1 ok.2.2 hgs.2 (by omega) l1 A.over hin1 hwa1 hb' (by rw [fa.regs]; exact hrb)
      generalize nodeF b (g + oa.G.length) (r + oa.R.length) oa.over = ob at *
      generalize stepL th wa b La.1 Vb = Lb at *
      have l2 : (evG RV INS ob.G v1).length = g + oa.G.length + ob.G.length := by rw [evG_len, l1]
      have As := A.some.ev RV INS ob.G
      have Ar := A.regs.ev (regs := RV) (ins := INS) (l := ob.G)
      have Ae := A.emits.ev (regs := RV) (ins := INS) (l := ob.G)
      generalize evG RV INS ob.G v1 = v2 at *
      refine ⟨B.over.ev _ _ _, ?_, ?_, (Ae.append B.emits).ev⟩
      · exact new_any2 As B.some (by simp [l2])
      · rw [proj_two _ _ la]; exact (Ar.append B.regs).ev
    by_cases k6 : x.kind = 6
    · simp only [nodeF, stepL, if_neg k5, if_pos k6, p1, p2]
      have fa := nodeF_ok a g r bg ok.2.1 hgs.1 h8 hb.lo (by have := hb.hi; omega)
      have A := nodeF_told (RV := RV) (INS := INS) (th := th) (wa := wa) a g r bg Va v bb ok.2.1 hgs.1 h8 hv hb hin hwa ha hra
      have la := stepL_len th wa a bb Va
      generalize nodeF a g r bg = oa at *
      generalize stepL th wa a bb Va = La at *
      have l1 : (evG RV INS oa.G v).length = g + oa.G.length := by rw [evG_len, hv]
      have hin1 := fun s h0 h1 => (hin s h0 h1).ev RV INS oa.G
      have hwa1 := fun s h0 h1 => (hwa s h0 h1).ev RV INS oa.G
      have hb1 := hb.ev RV INS oa.G
      rw [evG_append, evG_append]
      generalize evG RV INS oa.G v = v1 at *
      have B := nodeF_told (RV := RV) (INS := INS) (th := th) (wa := wa) b (g + oa.G.length) (r + oa.R.length) bg Vb v1 bb ok.2.2 hgs.2 (by omega) l1 hb1 hin1 hwa1 hb' (by rw [fa.regs]; exact hrb)
      generalize nodeF b (g + oa.G.length) (r + oa.R.length) bg = ob at *
      generalize stepL th wa b bb Vb = Lb at *
      have l2 : (evG RV INS ob.G v1).length = g + oa.G.length + ob.G.length := by rw [evG_len, l1]
      have As := A.some.ev RV INS ob.G
      have Ao := A.over.ev RV INS ob.G
      have Ar := A.regs.ev (regs := RV) (ins := INS) (l := ob.G)
      have Ae := A.emits.ev (regs := RV) (ins := INS) (l := ob.G)
      have hb2 := hb1.ev RV INS ob.G
      have Bs := B.some
      have Bo := B.over
      have BR := B.regs
      have BE := B.emits
      generalize evG RV INS ob.G v1 = v2 at *
      generalize hq : ((g + oa.G.length + ob.G.length : Nat) : Int) = q
      have lq : (v2.length : Int) = q := by rw [l2, hq]
      clear A B l1 l2 hq
      suffices h : ∃ x0, Val (evG RV INS [gAny [oa.over, ob.over], gAny [bg, oa.some], gNot (q + 1), gAny [oa.over, q + 2], gAny [bg, ob.some], gNot (q + 4), gAny [ob.over, q + 5], gAll [q, q + 3, q + 6], gAny [oa.some, ob.some]] v2) (q + 7) x0 ∧ x0 = ((La.1 || Lb.1) && ((La.1 || !(bb || someV Va)) && (Lb.1 || !(bb || someV Vb)))) ∧ Val (evG RV INS [gAny [oa.over, ob.over], gAny [bg, oa.some], gNot (q + 1), gAny [oa.over, q + 2], gAny [bg, ob.some], gNot (q + 4), gAny [ob.over, q + 5], gAll [q, q + 3, q + 6], gAny [oa.some, ob.some]] v2) (q + 8) (someV Va || someV Vb) by
        obtain ⟨x0, h1, h2, h3⟩ := h
        subst h2
        exact ⟨h1, h3, by rw [proj_two _ _ la]; exact (Ar.append BR).ev, (Ae.append BE).ev⟩
      clear Ar Ae BR BE hin1 hwa1 hb1
      simp only [evG]
      have s0 := new_any2 (regs := RV) (ins := INS) (k := q) Ao Bo (by omega)
      have Ao := Ao.app [worthM RV INS v2 (gAny [oa.over, ob.over])]; have Bo := Bo.app [worthM RV INS v2 (gAny [oa.over, ob.over])]; have As := As.app [worthM RV INS v2 (gAny [oa.over, ob.over])]; have Bs := Bs.app [worthM RV INS v2 (gAny [oa.over, ob.over])]; have hb2 := hb2.app [worthM RV INS v2 (gAny [oa.over, ob.over])]
      have l0 : ((v2 ++ [worthM RV INS v2 (gAny [oa.over, ob.over])]).length : Int) = q + 1 := by simp; omega
      generalize v2 ++ [worthM RV INS v2 (gAny [oa.over, ob.over])] = u0 at *
      have s1 := new_any2 (regs := RV) (ins := INS) (k := q + 1) hb2 As (by omega)
      generalize hy : worthM RV INS u0 (gAny [bg, oa.some]) = y at *
      have Ao := Ao.app [y]; have Bo := Bo.app [y]; have As := As.app [y]; have Bs := Bs.app [y]; have hb2 := hb2.app [y]; have s0 := s0.app [y]
      have l1 : ((u0 ++ [y]).length : Int) = q + 2 := by simp; omega
      clear hy
      generalize u0 ++ [y] = u1 at *
      have s2 := new_not (regs := RV) (ins := INS) (k := q + 2) s1 (by omega)
      generalize hy : worthM RV INS u1 (gNot (q + 1)) = y2 at *
      have Ao := Ao.app [y2]; have Bo := Bo.app [y2]; have As := As.app [y2]; have Bs := Bs.app [y2]; have hb2 := hb2.app [y2]; have s0 := s0.app [y2]
      have l2 : ((u1 ++ [y2]).length : Int) = q + 3 := by simp; omega
      clear hy
      generalize u1 ++ [y2] = u2 at *
      have s3 := new_any2 (regs := RV) (ins := INS) (k := q + 3) Ao s2 (by omega)
      generalize hy : worthM RV INS u2 (gAny [oa.over, q + 2]) = y3 at *
      have Bo := Bo.app [y3]; have As := As.app [y3]; have Bs := Bs.app [y3]; have hb2 := hb2.app [y3]; have s0 := s0.app [y3]
      have l3 : ((u2 ++ [y3]).length : Int) = q + 4 := by simp; omega
      clear hy
      generalize u2 ++ [y3] = u3 at *
      have s4 := new_any2 (regs := RV) (ins := INS) (k := q + 4) hb2 Bs (by omega)
      generalize hy : worthM RV INS u3 (gAny [bg, ob.some]) = y4 at *
      have Bo := Bo.app [y4]; have As := As.app [y4]; have Bs := Bs.app [y4]; have s0 := s0.app [y4]; have s3 := s3.app [y4]
      have l4 : ((u3 ++ [y4]).length : Int) = q + 5 := by simp; omega
      clear hy
      generalize u3 ++ [y4] = u4 at *
      have s5 := new_not (regs := RV) (ins := INS) (k := q + 5) s4 (by omega)
      generalize hy : worthM RV INS u4 (gNot (q + 4)) = y5 at *
      have Bo := Bo.app [y5]; have As := As.app [y5]; have Bs := Bs.app [y5]; have s0 := s0.app [y5]; have s3 := s3.app [y5]
      have l5 : ((u4 ++ [y5]).length : Int) = q + 6 := by simp; omega
      clear hy
      generalize u4 ++ [y5] = u5 at *
      have s6 := new_any2 (regs := RV) (ins := INS) (k := q + 6) Bo s5 (by omega)
      generalize hy : worthM RV INS u5 (gAny [ob.over, q + 5]) = y6 at *
      have As := As.app [y6]; have Bs := Bs.app [y6]; have s0 := s0.app [y6]; have s3 := s3.app [y6]
      have l6 : ((u5 ++ [y6]).length : Int) = q + 7 := by simp; omega
      clear hy
      generalize u5 ++ [y6] = u6 at *
      have s7 := new_all3 (regs := RV) (ins := INS) (k := q + 7) s0 s3 s6 (by omega)
      generalize hy : worthM RV INS u6 (gAll [q, q + 3, q + 6]) = y7 at *
      have As := As.app [y7]; have Bs := Bs.app [y7]
      have l7 : ((u6 ++ [y7]).length : Int) = q + 8 := by simp; omega
      clear hy
      generalize u6 ++ [y7] = u7 at *
      have s8 := new_any2 (regs := RV) (ins := INS) (k := q + 8) As Bs (by omega)
      exact ⟨_, s7.app _, rfl, s8⟩
    · simp only [nodeF, stepL, if_neg k5, if_neg k6, p1, p2]
      have hk78 : x.kind = 7 ∨ x.kind = 8 := by
        rcases good_two' ok.1 hx with e | e | e | e
        · exact absurd e k5
        · exact absurd e k6
        · exact .inl e
        · exact .inr e
      have his : Val v (isG x) (choiceM th wa x) := by
        unfold isG choiceM
        split
        · exact hin x.sig hs.1 hs.2
        · exact hwa x.sig hs.1 hs.2
      rw [evG_cons, evG_append, evG_append, evG_append]
      have s0 := new_all2 (regs := RV) (ins := INS) (k := (g : Int)) hb his (by omega)
      have hin0 := fun s h0 h1 => (hin s h0 h1).app [worthM RV INS v (gAll [bg, isG x])]
      have hwa0 := fun s h0 h1 => (hwa s h0 h1).app [worthM RV INS v (gAll [bg, isG x])]
      have hb0 := hb.app [worthM RV INS v (gAll [bg, isG x])]
      have his0 := his.app [worthM RV INS v (gAll [bg, isG x])]
      have l0 : (v ++ [worthM RV INS v (gAll [bg, isG x])]).length = g + 1 := by simp [hv]
      generalize v ++ [worthM RV INS v (gAll [bg, isG x])] = u at *
      have fa := nodeF_ok a (g + 1) r g ok.2.1 hgs.1 (by omega) (by omega) (by omega)
      have A := nodeF_told (RV := RV) (INS := INS) (th := th) (wa := wa) a (g + 1) r g Va u (bb && choiceM th wa x) ok.2.1 hgs.1 (by omega) l0 s0 hin0 hwa0 ha hra
      have la := stepL_len th wa a (bb && choiceM th wa x) Va
      generalize nodeF a (g + 1) r g = oa at *
      generalize stepL th wa a (bb && choiceM th wa x) Va = La at *
      have l1 : (evG RV INS oa.G u).length = g + 1 + oa.G.length := by rw [evG_len, l0]
      have hin1 := fun s h0 h1 => (hin0 s h0 h1).ev RV INS oa.G
      have hwa1 := fun s h0 h1 => (hwa0 s h0 h1).ev RV INS oa.G
      have hb1 := hb0.ev RV INS oa.G
      have his1 := his0.ev RV INS oa.G
      generalize evG RV INS oa.G u = v1 at *
      generalize hq : ((g + 1 + oa.G.length : Nat) : Int) = q at *
      have s1 := new_not (regs := RV) (ins := INS) (k := q) his1 (by omega)
      have As := A.some.ev RV INS [gNot (isG x), gAll [bg, q]]
      have Ao := A.over.ev RV INS [gNot (isG x), gAll [bg, q]]
      have Ar := A.regs.ev (regs := RV) (ins := INS) (l := [gNot (isG x), gAll [bg, q]])
      have Ae := A.emits.ev (regs := RV) (ins := INS) (l := [gNot (isG x), gAll [bg, q]])
      have hin2 := fun s h0 h1 => (hin1 s h0 h1).ev RV INS [gNot (isG x), gAll [bg, q]]
      have hwa2 := fun s h0 h1 => (hwa1 s h0 h1).ev RV INS [gNot (isG x), gAll [bg, q]]
      have l2 : (evG RV INS [gNot (isG x), gAll [bg, q]] v1).length = g + 1 + oa.G.length + 2 := by rw [evG_len, l1]; rfl
      have s2 : Val (evG RV INS [gNot (isG x), gAll [bg, q]] v1) (q + 1) (bb && !choiceM th wa x) := by
        simp only [evG]
        exact new_all2 (hb1.app _) s1 (by simp; omega)
      generalize evG RV INS [gNot (isG x), gAll [bg, q]] v1 = v2 at *
      have B := nodeF_told (RV := RV) (INS := INS) (th := th) (wa := wa) b (g + 1 + oa.G.length + 2) (r + oa.R.length) (q + 1) Vb v2 (bb && !choiceM th wa x) ok.2.2 hgs.2 (by omega) l2 s2 hin2 hwa2 hb' (by rw [fa.regs]; exact hrb)
      generalize nodeF b (g + 1 + oa.G.length + 2) (r + oa.R.length) (q + 1) = ob at *
      generalize stepL th wa b (bb && !choiceM th wa x) Vb = Lb at *
      have l3 : (evG RV INS ob.G v2).length = g + 1 + oa.G.length + 2 + ob.G.length := by rw [evG_len, l2]
      have As := As.ev RV INS ob.G
      have Ao := Ao.ev RV INS ob.G
      have Ar := Ar.ev (regs := RV) (ins := INS) (l := ob.G)
      have Ae := Ae.ev (regs := RV) (ins := INS) (l := ob.G)
      have Bs := B.some
      have Bo := B.over
      have BR := B.regs
      have BE := B.emits
      generalize evG RV INS ob.G v2 = v3 at *
      generalize hq2 : ((g + 1 + oa.G.length + 2 + ob.G.length : Nat) : Int) = q2
      have s3 := new_any2 (regs := RV) (ins := INS) (k := q2) Ao Bo (by omega)
      refine ⟨?_, ?_, by rw [proj_two _ _ la]; exact (Ar.append BR).ev, (Ae.append BE).ev⟩
      · simp only [evG]; exact s3.app _
      · simp only [evG]; exact new_any2 (As.app _) (Bs.app _) (by simp; omega)
end Go.Proofs.Ytlafiddfplhafaa
/- The runs of a program's net are the program's. Plain Lean. -/
namespace Go.Proofs.Ytlafiddfplhafaa
set_option linter.unusedVariables false
set_option linter.unusedSimpArgs false
/-! the whole net is right -/
theorem emitsF_range {E : List (Int × Int)} {n : Nat} (h : ∀ e ∈ E, 0 ≤ e.2 ∧ e.2 < n) (s : Int) : ∀ a ∈ emitsF E s, 0 ≤ a ∧ a < n := fun a ha => by
  obtain ⟨e, he, rfl⟩ := List.mem_map.1 ha
  exact h e (List.mem_filter.1 he).1
theorem emitsF_len (E : List (Int × Int)) (s : Int) : (emitsF E s).length ≤ E.length := by
  unfold emitsF; rw [List.length_map]; exact List.length_filter_le _ _
theorem head_ahead (rn : Nat) (h : 4 ≤ rn) : Ahead rn 0 headG :=
  ahead_in (by decide) (ahead_in (by decide) (ahead_in (by decide) (ahead_reg (by omega) (ahead_never (ahead_reg (by omega) (ahead_reg (by omega) (ahead_reg (by omega) trivial)))))))
theorem net_node {t : Tr} (ok : t.ok) (hg : ∀ x ∈ t.flat, goodN x) : FOk t 8 4 (nodeF t 8 4 3) := nodeF_ok t 8 4 3 ok hg (by decide) (by decide) (by decide)
theorem net_ahead {t : Tr} (ok : t.ok) (hg : ∀ x ∈ t.flat, goodN x) (hs : t.size ≤ 14) : Ahead (netF t).regs.length 0 (netF t).gates := by
  have F := net_node ok hg
  have hr : (netF t).regs.length = 4 + nW t := by simp [netF, F.regs]; omega
  rw [hr]
  have hfew := F.few
  have he := fun s => emitsF_len (nodeF t 8 4 3).E s
  have hrange := fun s => emitsF_range (E := (nodeF t 8 4 3).E) (n := 8 + (nodeF t 8 4 3).G.length) (fun e he => by have := F.emits e he; exact this.2) s
  have hany : ∀ (k : Nat) (s : Int), 8 + (nodeF t 8 4 3).G.length ≤ k → FormG (4 + nW t) (gAny (emitsF (nodeF t 8 4 3).E s)) ∧ (gAny (emitsF (nodeF t 8 4 3).E s)).args.length ≤ 16 ∧ ∀ a ∈ (gAny (emitsF (nodeF t 8 4 3).E s)).args, 0 ≤ a ∧ a < k := fun k s hk =>
    ⟨.inr (.inr (.inr (.inl ⟨.inr rfl, rfl⟩))), by have := he s; simp only; omega, fun a ha => by have := hrange s a ha; omega⟩
  refine (head_ahead _ (by omega)).append ?_
  refine Ahead.append (k := 0 + headG.length) (by simpa [headG] using F.ahead) ?_
  exact ⟨hany _ _ (by simp [headG]), hany _ _ (by simp [headG]), hany _ _ (by simp [headG]; omega), trivial⟩
theorem form_of {N : NetM} {x : GateM} (hi : N.ins = 3) (h : FormG N.regs.length x) : formM N x = true ∧ 0 ≤ x.kind ∧ x.kind ≤ 6 := by
  unfold formM
  rcases h with ⟨e, h1, h2⟩ | ⟨e, h1, h2, h3⟩ | ⟨e, h1, h2, h3⟩ | ⟨e | e, h1⟩ | ⟨e, h1, h2⟩
  · simp [e, h1, h2]
  · simp [e, h1, h3, hi]; omega
  · simp [e, h1, h3]; omega
  · simp [e, h1]
  · simp [e, h1]
  · simp [e, h1, h2]
theorem net_ok {t : Tr} (ok : t.ok) (hg : ∀ x ∈ t.flat, goodN x) (hs : t.size ≤ 14) : NetOK (netF t) := by
  have F := net_node ok hg
  have A := net_ahead ok hg hs
  have hsz := F.size
  have hnw := nW_le t
  have hgl : (netF t).gates.length = 11 + (nodeF t 8 4 3).G.length := by simp [netF, headG]; omega
  have each : ∀ x ∈ (netF t).gates, ∃ k : Nat, k < (netF t).gates.length ∧ FormG (netF t).regs.length x ∧ x.args.length ≤ 16 ∧ ∀ a ∈ x.args, 0 ≤ a ∧ a < k := fun x hx => by
    obtain ⟨j, hj⟩ := List.mem_iff_getElem?.1 hx
    have := A.get j x hj
    rw [Nat.zero_add] at this
    exact ⟨j, (List.getElem?_eq_some_iff.1 hj).1, this⟩
  refine ⟨by simp [netF], by simp [netF], by omega, by simp [netF, F.regs]; omega, by simp [netF], fun x hx => ?_, fun k hk => ?_, fun x hx => ?_, fun x hx => ?_⟩
  · obtain ⟨_, _, _, h, _⟩ := each x hx; exact h
  · unfold namedM at hk
    simp only [List.mem_append] at hk
    rcases hk with (h | h) | h
    · simp only [netF, List.mem_cons, List.not_mem_nil, or_false] at h; rw [hgl]; omega
    · obtain ⟨y, hy, rfl⟩ := List.mem_map.1 h
      rw [hgl]
      simp only [netF, List.mem_append, List.mem_cons, List.not_mem_nil, or_false] at hy
      rcases hy with (rfl | rfl | rfl | rfl) | h
      · simp only; omega
      · simp only; omega
      · simp only; omega
      · simp only; omega
      · have := F.nexts y h; omega
    · obtain ⟨x, hx, h⟩ := List.mem_flatMap.1 h
      obtain ⟨k', h1, _, _, h2⟩ := each x hx
      have := h2 k h; omega
  · obtain ⟨_, _, h, _⟩ := each x hx; exact (form_of rfl h).2
  · obtain ⟨_, _, h, _⟩ := each x hx; exact (form_of rfl h).1
theorem net_order {t : Tr} (ok : t.ok) (hg : ∀ x ∈ t.flat, goodN x) (hs : t.size ≤ 14) : ∃ l, orderM (netF t).gates = some l :=
  order_of_ahead (fun k g hk => by have := ((net_ahead ok hg hs).get k g hk).2.2; rwa [Nat.zero_add] at this) _ _ _ (by simp) (by simp [cnt])
/-! gates in a row: what they tell is what is settled -/
theorem evG_at (regs ins : List Int) : ∀ (l : List GateM) (v : List Int) (j : Nat) (x : GateM), l[j]? = some x → (∀ (i : Nat) (y : GateM), l[i]? = some y → ∀ a ∈ y.args, 0 ≤ a ∧ a < ((v.length + i : Nat) : Int)) →
    valI (evG regs ins l v) ((v.length + j : Nat) : Int) = worthM regs ins (evG regs ins l v) x
  | [], v, j, x, h, _ => by simp at h
  | g :: l, v, 0, x, h, ha => by
    simp at h; subst h
    obtain ⟨r, hr⟩ := evG_pre regs ins l (v ++ [worthM regs ins v g])
    simp only [evG, hr, Nat.add_zero]
    rw [valI_app (by omega) (by simp; omega), valI_new]
    refine worth_other fun a ha' => ?_
    have := ha 0 g (by simp) a ha'
    rw [valI_app this.1 (by simp; omega), valI_app this.1 (by simpa using this.2)]
  | g :: l, v, j + 1, x, h, ha => by
    have := evG_at regs ins l (v ++ [worthM regs ins v g]) j x (by simpa using h) (fun i y hi a hy => by
      have := ha (i + 1) y (by simpa using hi) a hy
      rw [List.length_append]; simp only [List.length_cons, List.length_nil]; rw [show v.length + (0 + 1) + i = v.length + (i + 1) from by omega]; exact this)
    simp only [evG]
    rw [List.length_append] at this; simp only [List.length_cons, List.length_nil] at this
    rw [show v.length + (j + 1) = v.length + (0 + 1) + j from by omega]; exact this
theorem evG_settled {N : NetM} {rn : Nat} (h : NetOK N) (A : Ahead rn 0 N.gates) (regs ins : List Int) : settledM N.gates regs ins = evG regs ins N.gates [] := by
  have hahead : ∀ (k : Nat) (g : GateM), N.gates[k]? = some g → ∀ a ∈ g.args, 0 ≤ a ∧ a < k := fun k g hk => by have := (A.get k g hk).2.2; rwa [Nat.zero_add] at this
  obtain ⟨l, hl⟩ := order_of_ahead hahead N.gates.length (List.replicate N.gates.length false) [] (by simp) (by simp [cnt])
  have hlen : (evG regs ins N.gates []).length = N.gates.length := by rw [evG_len]; simp
  refine order_one h.args hl (settled_len _ _ _) hlen (settled_least _ _ _).fix (val_ext (by rw [next_len, hlen]) fun k hk => ?_)
  rw [next_len] at hk
  rw [next_val (List.getElem?_eq_getElem hk)]
  have := evG_at regs ins N.gates [] k _ (List.getElem?_eq_getElem hk) (fun i y hi a ha => by have := hahead i y hi a ha; simpa using this)
  simpa using this.symm
/-! the runs -/
def restRegs (t : Tr) (r : RestM) : List Int := bI r.fresh :: (r.outs.map bI ++ (projT t r.waits).map bI)
structure RightR (t : Tr) (r : RestM) : Prop where
  waits : RightV t r.waits
  outs : r.outs.length = 3
  fresh : r.fresh = true → someV r.waits = false
theorem RightR.start (t : Tr) : RightR t (freshM t.size) := ⟨right_zero t, rfl, fun _ => someV_zero _⟩
theorem emits_sig (th wa : Int → Bool) : ∀ (t : Tr) (b : Bool) (V : List Bool), (∀ x ∈ t.flat, goodN x) → ∀ s ∈ (stepL th wa t b V).2.2, s = 0 ∨ s = 1 ∨ s = 2
  | .leaf x, b, V, hg, s, h => by
    have := leaf_sig (hg x (by simp [Tr.flat]))
    simp only [stepL] at h
    split at h
    · simp at h
    split at h
    · split at h
      · simp at h; subst h; omega
      · simp at h
    split at h
    · simp at h
    split at h <;> simp at h
  | .two x a b, bg, V, hg, s, h => by
    have hgs := sub_good hg
    simp only [stepL] at h
    split at h
    · rcases List.mem_append.1 h with h | h
      · exact emits_sig th wa a _ _ hgs.1 s h
      · exact emits_sig th wa b _ _ hgs.2 s h
    split at h
    · rcases List.mem_append.1 h with h | h
      · exact emits_sig th wa a _ _ hgs.1 s h
      · exact emits_sig th wa b _ _ hgs.2 s h
    · rcases List.mem_append.1 h with h | h
      · exact emits_sig th wa a _ _ hgs.1 s h
      · exact emits_sig th wa b _ _ hgs.2 s h
theorem emitsO_three : ∀ (es : List Int) (a b c : Bool), (∀ s ∈ es, s = 0 ∨ s = 1 ∨ s = 2) → emitsO es [a, b, c] = [a || decide ((0 : Int) ∈ es), b || decide ((1 : Int) ∈ es), c || decide ((2 : Int) ∈ es)]
  | [], a, b, c, _ => by simp [emitsO]
  | s :: es, a, b, c, h => by
    have ih := fun a b c => emitsO_three es a b c (fun x hx => h x (by simp [hx]))
    rcases h s (by simp) with rfl | rfl | rfl
    · have : emitsO (0 :: es) [a, b, c] = emitsO es [true, b, c] := rfl
      rw [this, ih]; simp
    · have : emitsO (1 :: es) [a, b, c] = emitsO es [a, true, c] := rfl
      rw [this, ih]; simp
    · have : emitsO (2 :: es) [a, b, c] = emitsO es [a, b, true] := rfl
      rw [this, ih]; simp
theorem new_emits {regs ins v : List Int} {E : List (Int × Int)} {es : List Int} (h : EmitsOK v E es) (s : Int) {k : Int} (hk : k = v.length) : Val (v ++ [worthM regs ins v (gAny (emitsF E s))]) k (decide (s ∈ es)) := by
  refine val_new hk ?_
  rw [worth_any]
  have : ∃ bs : List Bool, (emitsF E s).map (valI v) = bs.map bI ∧ bs.any id = decide (s ∈ es) := by
    have key : ∀ F : List (Int × Int), (∀ e ∈ F, ∃ x, Val v e.2 x) → ∃ bs : List Bool, (emitsF F s).map (valI v) = bs.map bI ∧ (bs.any id = true ↔ ∃ e ∈ F, e.1 = s ∧ Val v e.2 true) := by
      intro F
      induction F with
      | nil => exact fun _ => ⟨[], rfl, by simp⟩
      | cons e F ih =>
        intro hF
        obtain ⟨bs, h1, h2⟩ := ih (fun y hy => hF y (by simp [hy]))
        obtain ⟨x, hx⟩ := hF e (by simp)
        by_cases he : e.1 = s
        · refine ⟨x :: bs, by simp [emitsF, he, hx.is] at h1 ⊢; exact h1, ?_⟩
          simp only [List.any_cons, Bool.or_eq_true, h2, id]
          constructor
          · rintro (e1 | ⟨y, hy, e2⟩)
            · subst e1; exact ⟨e, by simp, he, hx⟩
            · exact ⟨y, by simp [hy], e2⟩
          · rintro ⟨y, hy, e1, e2⟩
            rcases List.mem_cons.1 hy with e3 | e3
            · subst e3; exact .inl (hx.eq e2)
            · exact .inr ⟨y, e3, e1, e2⟩
        · refine ⟨bs, by simp [emitsF, he] at h1 ⊢; exact h1, ?_⟩
          rw [h2]
          constructor
          · rintro ⟨y, hy, e2⟩; exact ⟨y, by simp [hy], e2⟩
          · rintro ⟨y, hy, e1, e2⟩
            rcases List.mem_cons.1 hy with e3 | e3
            · subst e3; exact absurd e1 he
            · exact ⟨y, e3, e1, e2⟩
    obtain ⟨bs, h1, h2⟩ := key E h.bool
    refine ⟨bs, h1, ?_⟩
    rw [Bool.eq_iff_iff, h2, h.iff]; simp
  obtain ⟨bs, h1, h2⟩ := this
  rw [h1, of5_bools, h2]
theorem there_bit (x : Int) (s : Int) (h0 : 0 ≤ s) (h2 : s ≤ 2) : valI (bitsM x 3) s = bI (thereM x s) := by
  have := bits_at x 3 s.toNat (by omega)
  simp only [valI, this, Option.getD_some, thereM, bI]
  have : x / 2 ^ s.toNat % 2 = 0 ∨ x / 2 ^ s.toNat % 2 = 1 := by omega
  rcases this with e | e <;> simp [e]
theorem was_bit {O : List Bool} (hO : O.length = 3) (f : Int) (L : List Int) (s : Int) (h0 : 0 ≤ s) (h2 : s ≤ 2) : valI (f :: (O.map bI ++ L)) ((1 + s.toNat : Nat) : Int) = bI (wasM O s) := by
  unfold valI wasM
  rw [Int.toNat_natCast, Nat.add_comm, List.getElem?_cons_succ, List.getElem?_append_left (by simp; omega), List.getElem?_map]
  have : s.toNat < O.length := by omega
  rw [List.getElem?_eq_getElem this]; rfl
set_option maxHeartbeats 1000000 in
theorem net_turn {t : Tr} (ok : t.ok) (hg : ∀ x ∈ t.flat, goodN x) (hs : t.size ≤ 14) {r : RestM} (hr : RightR t r) (x : Int) :
    turnN (netF t) (restRegs t r) (bitsM x 3) = some ((turnR t r x).outs.map bI, restRegs t (turnR t r x)) ∧ RightR t (turnR t r x) := by
  have hst := turn_step (ins := x) hr.waits hr.fresh ok hg
  have hnot : ¬ (r.fresh = true ∧ someV r.waits = true) := fun h => by rw [hr.fresh h.1] at h; cases h.2
  have hright := stepL_right (thereM x) (wasM r.outs) hr.waits hg ok hnot
  have hsig := emits_sig (thereM x) (wasM r.outs) t r.fresh r.waits hg
  have F := net_node ok hg
  have hor : (2 : Int) ∉ settledM (netF t).gates (restRegs t r) (bitsM x 3) := by
    obtain ⟨l, hl⟩ := net_order ok hg hs
    have g1 := good01 (bits_good x 3)
    have g2 : ∀ y ∈ restRegs t r, y = 0 ∨ y = 1 := fun y hy => by
      have hb : ∀ b : Bool, bI b = 0 ∨ bI b = 1 := fun b => by cases b <;> simp [bI]
      unfold restRegs at hy
      simp only [List.mem_cons, List.mem_append, List.mem_map] at hy
      rcases hy with rfl | ⟨b, _, rfl⟩ | ⟨b, _, rfl⟩ <;> exact hb _
    exact order_shut (net_ok ok hg hs).args hl (good01 g2).1 g1.1 (good01 g2).2 g1.2
  have hset := evG_settled (net_ok ok hg hs) (net_ahead ok hg hs) (restRegs t r) (bitsM x 3)
  have hbit := fun s h0 h2 => there_bit x s h0 h2
  have hwas := fun s h0 h2 => was_bit hr.outs (bI r.fresh) ((projT t r.waits).map bI) s h0 h2
  have hreg : RegsAt (restRegs t r) 4 (projT t r.waits) := fun j b hj => by
    unfold restRegs valI
    rw [Int.toNat_natCast, show 4 + j = (3 + j) + 1 from by omega, List.getElem?_cons_succ, List.getElem?_append_right (by simp [hr.outs]), List.length_map, hr.outs, Nat.add_sub_cancel_left, List.getElem?_map, hj]; rfl
  have hfr : valI (restRegs t r) ((0 : Nat) : Int) = bI r.fresh := rfl
  generalize hRV : restRegs t r = RV at *
  have hwas' : ∀ s : Int, 0 ≤ s → s ≤ 2 → valI RV ((1 + s.toNat : Nat) : Int) = bI (wasM r.outs s) := fun s h0 h2 => by rw [← hRV]; exact hwas s h0 h2
  clear hwas
  generalize bitsM x 3 = INS at *
  generalize hth : thereM x = th at *
  generalize hwa : wasM r.outs = wa at *
  -- the head
  have i0 : Val (evG RV INS headG []) 0 (th 0) := (new_in (regs := RV) (ins := INS) (v := []) (k := 0) (n := 0) (hbit 0 (by decide) (by decide)) rfl).ev RV INS [gIn 1, gIn 2, gReg 0, gNever, gReg 1, gReg 2, gReg 3]
  have i1 : Val (evG RV INS headG []) 1 (th 1) := by
    have e : evG RV INS headG [] = evG RV INS [gIn 2, gReg 0, gNever, gReg 1, gReg 2, gReg 3] (evG RV INS [gIn 0] [] ++ [worthM RV INS (evG RV INS [gIn 0] []) (gIn 1)]) := rfl
    rw [e]; exact (new_in (hbit 1 (by decide) (by decide)) (by rw [evG_len]; rfl)).ev _ _ _
  have i2 : Val (evG RV INS headG []) 2 (th 2) := by
    have e : evG RV INS headG [] = evG RV INS [gReg 0, gNever, gReg 1, gReg 2, gReg 3] (evG RV INS [gIn 0, gIn 1] [] ++ [worthM RV INS (evG RV INS [gIn 0, gIn 1] []) (gIn 2)]) := rfl
    rw [e]; exact (new_in (hbit 2 (by decide) (by decide)) (by rw [evG_len]; rfl)).ev _ _ _
  have i3 : Val (evG RV INS headG []) 3 r.fresh := by
    have e : evG RV INS headG [] = evG RV INS [gNever, gReg 1, gReg 2, gReg 3] (evG RV INS [gIn 0, gIn 1, gIn 2] [] ++ [worthM RV INS (evG RV INS [gIn 0, gIn 1, gIn 2] []) (gReg 0)]) := rfl
    rw [e]; exact (new_reg hfr (by rw [evG_len]; rfl)).ev _ _ _
  have i4 : Val (evG RV INS headG []) 4 false := by
    have e : evG RV INS headG [] = evG RV INS [gReg 1, gReg 2, gReg 3] (evG RV INS [gIn 0, gIn 1, gIn 2, gReg 0] [] ++ [worthM RV INS (evG RV INS [gIn 0, gIn 1, gIn 2, gReg 0] []) gNever]) := rfl
    rw [e]; exact (new_never (by rw [evG_len]; rfl)).ev _ _ _
  have i5 : Val (evG RV INS headG []) 5 (wa 0) := by
    have e : evG RV INS headG [] = evG RV INS [gReg 2, gReg 3] (evG RV INS [gIn 0, gIn 1, gIn 2, gReg 0, gNever] [] ++ [worthM RV INS (evG RV INS [gIn 0, gIn 1, gIn 2, gReg 0, gNever] []) (gReg 1)]) := rfl
    rw [e]; exact (new_reg (hwas' 0 (by decide) (by decide)) (by rw [evG_len]; rfl)).ev _ _ _
  have i6 : Val (evG RV INS headG []) 6 (wa 1) := by
    have e : evG RV INS headG [] = evG RV INS [gReg 3] (evG RV INS [gIn 0, gIn 1, gIn 2, gReg 0, gNever, gReg 1] [] ++ [worthM RV INS (evG RV INS [gIn 0, gIn 1, gIn 2, gReg 0, gNever, gReg 1] []) (gReg 2)]) := rfl
    rw [e]; exact (new_reg (hwas' 1 (by decide) (by decide)) (by rw [evG_len]; rfl)).ev _ _ _
  have i7 : Val (evG RV INS headG []) 7 (wa 2) := by
    have e : evG RV INS headG [] = (evG RV INS [gIn 0, gIn 1, gIn 2, gReg 0, gNever, gReg 1, gReg 2] [] ++ [worthM RV INS (evG RV INS [gIn 0, gIn 1, gIn 2, gReg 0, gNever, gReg 1, gReg 2] []) (gReg 3)]) := rfl
    rw [e]; exact new_reg (hwas' 2 (by decide) (by decide)) (by rw [evG_len]; rfl)
  have hl0 : (evG RV INS headG []).length = 8 := by rw [evG_len]; rfl
  have hgates : (netF t).gates = headG ++ ((nodeF t 8 4 3).G ++ [gAny (emitsF (nodeF t 8 4 3).E 0), gAny (emitsF (nodeF t 8 4 3).E 1), gAny (emitsF (nodeF t 8 4 3).E 2)]) := rfl
  rw [hgates, evG_append, evG_append] at hset
  generalize evG RV INS headG [] = v0 at *
  have T := nodeF_told (RV := RV) (INS := INS) (th := th) (wa := wa) t 8 4 3 r.waits v0 r.fresh ok hg (by decide) hl0 i3
    (fun s h0 h2 => by have : s = 0 ∨ s = 1 ∨ s = 2 := by omega
                       rcases this with rfl | rfl | rfl <;> assumption)
    (fun s h0 h2 => by have : s = 0 ∨ s = 1 ∨ s = 2 := by omega
                       rcases this with rfl | rfl | rfl <;> assumption) hr.waits hreg
  have i4' := i4.ev RV INS (nodeF t 8 4 3).G
  have hl1 : (evG RV INS (nodeF t 8 4 3).G v0).length = 8 + (nodeF t 8 4 3).G.length := by rw [evG_len, hl0]
  have TR := T.regs; have TE := T.emits
  clear T i0 i1 i2 i3 i4 i5 i6 i7 hreg hbit hwas'
  generalize evG RV INS (nodeF t 8 4 3).G v0 = v1 at *
  have e0 := new_emits (regs := RV) (ins := INS) TE 0 (k := ((8 + (nodeF t 8 4 3).G.length : Nat) : Int)) (by omega)
  have TE1 := TE.ev (regs := RV) (ins := INS) (l := [gAny (emitsF (nodeF t 8 4 3).E 0)])
  have TE2 := TE.ev (regs := RV) (ins := INS) (l := [gAny (emitsF (nodeF t 8 4 3).E 0), gAny (emitsF (nodeF t 8 4 3).E 1)])
  have e1 := new_emits (regs := RV) (ins := INS) TE1 1 (k := ((8 + (nodeF t 8 4 3).G.length : Nat) : Int) + 1) (by rw [evG_len]; simp; omega)
  have e2 := new_emits (regs := RV) (ins := INS) TE2 2 (k := ((8 + (nodeF t 8 4 3).G.length : Nat) : Int) + 2) (by rw [evG_len]; simp; omega)
  have TRv := TR.ev (regs := RV) (ins := INS) (l := [gAny (emitsF (nodeF t 8 4 3).E 0), gAny (emitsF (nodeF t 8 4 3).E 1), gAny (emitsF (nodeF t 8 4 3).E 2)])
  have f0 : Val (settledM (headG ++ ((nodeF t 8 4 3).G ++ [gAny (emitsF (nodeF t 8 4 3).E 0), gAny (emitsF (nodeF t 8 4 3).E 1), gAny (emitsF (nodeF t 8 4 3).E 2)])) RV INS) ((8 + (nodeF t 8 4 3).G.length : Nat) : Int) (decide ((0 : Int) ∈ (stepL th wa t r.fresh r.waits).2.2)) := by
    rw [hset]; exact e0.ev RV INS [gAny (emitsF (nodeF t 8 4 3).E 1), gAny (emitsF (nodeF t 8 4 3).E 2)]
  have f1 : Val (settledM (headG ++ ((nodeF t 8 4 3).G ++ [gAny (emitsF (nodeF t 8 4 3).E 0), gAny (emitsF (nodeF t 8 4 3).E 1), gAny (emitsF (nodeF t 8 4 3).E 2)])) RV INS) (((8 + (nodeF t 8 4 3).G.length : Nat) : Int) + 1) (decide ((1 : Int) ∈ (stepL th wa t r.fresh r.waits).2.2)) := by
    rw [hset]; exact e1.ev RV INS [gAny (emitsF (nodeF t 8 4 3).E 2)]
  have f2 : Val (settledM (headG ++ ((nodeF t 8 4 3).G ++ [gAny (emitsF (nodeF t 8 4 3).E 0), gAny (emitsF (nodeF t 8 4 3).E 1), gAny (emitsF (nodeF t 8 4 3).E 2)])) RV INS) (((8 + (nodeF t 8 4 3).G.length : Nat) : Int) + 2) (decide ((2 : Int) ∈ (stepL th wa t r.fresh r.waits).2.2)) := by
    rw [hset]; exact e2
  have f4 : Val (settledM (headG ++ ((nodeF t 8 4 3).G ++ [gAny (emitsF (nodeF t 8 4 3).E 0), gAny (emitsF (nodeF t 8 4 3).E 1), gAny (emitsF (nodeF t 8 4 3).E 2)])) RV INS) 4 false := by
    rw [hset]; exact i4'.ev _ _ _
  rw [← hset] at TRv
  have houts : (turnR t r x).outs = [decide ((0 : Int) ∈ (stepL th wa t r.fresh r.waits).2.2), decide ((1 : Int) ∈ (stepL th wa t r.fresh r.waits).2.2), decide ((2 : Int) ∈ (stepL th wa t r.fresh r.waits).2.2)] := by
    simp only [turnR, hst]; rw [emitsO_three _ _ _ _ hsig]; simp
  have hwaits : (turnR t r x).waits = (stepL th wa t r.fresh r.waits).2.1 := by simp only [turnR, hst]
  refine ⟨?_, ⟨by rw [hwaits]; exact hright.1, by rw [houts]; rfl, fun h => by simp [turnR] at h⟩⟩
  unfold turnN
  rw [if_neg (by simpa using hor)]
  have hO : pickM (settledM (netF t).gates RV INS) (netF t).outs = (turnR t r x).outs.map bI := by
    rw [houts, hgates]
    simp only [pickM, netF, List.map_cons, List.map_nil, f0.is, f1.is, f2.is]
  have hN : pickM (settledM (netF t).gates RV INS) (nextsM (netF t)) = restRegs t (turnR t r x) := by
    rw [hgates]
    unfold restRegs
    rw [houts, hwaits]
    simp only [pickM, nextsM, netF, List.map_cons, List.map_nil, List.map_map, f0.is, f1.is, f2.is, f4.is, List.cons_append, List.nil_append, turnR]
    have := TRv.map
    rw [← this]; rfl
  rw [hO, hN]
/-- The program, instant by instant: what it puts out. -/
def runsT (t : Tr) : RestM → List Int → List (List Int)
  | _, [] => []
  | r, x :: l => (turnR t r x).outs.map bI :: runsT t (turnR t r x) l
def endT (t : Tr) : RestM → List Int → RestM
  | r, [] => r
  | r, x :: l => endT t (turnR t r x) l
theorem net_run {t : Tr} (ok : t.ok) (hg : ∀ x ∈ t.flat, goodN x) (hs : t.size ≤ 14) : ∀ (l : List Int) (r : RestM), RightR t r → runFrom (netF t) (restRegs t r) l = some (runsT t r l, restRegs t (endT t r l))
  | [], r, _ => rfl
  | x :: l, r, hr => by
    have h := net_turn ok hg hs hr x
    have e : (netF t).ins.toNat = 3 := rfl
    simp only [runFrom, e, h.1, Option.bind_some, net_run ok hg hs l _ h.2, Option.map_some, runsT, endT]
theorem net_first {t : Tr} (ok : t.ok) (hg : ∀ x ∈ t.flat, goodN x) : firstM (netF t) = restRegs t (freshM t.size) := by
  have F := net_node ok hg
  have h : (nodeF t 8 4 3).R.map (fun r => if r.fst then (1 : Int) else 0) = (List.replicate (nW t) false).map bI := by
    rw [← F.regs]
    have := F.nexts
    generalize (nodeF t 8 4 3).R = R at *
    induction R with
    | nil => rfl
    | cons y R ih => simp [List.replicate_succ, (this y (by simp)).1, ih (fun x hx => this x (by simp [hx])), bI]
  unfold firstM restRegs freshM
  rw [proj_zero, ← h]
  simp [netF, bI]
theorem net_run0 {t : Tr} (ok : t.ok) (hg : ∀ x ∈ t.flat, goodN x) (hs : t.size ≤ 14) (l : List Int) : runFrom (netF t) (firstM (netF t)) l = some (runsT t (freshM t.size) l, restRegs t (endT t (freshM t.size) l)) := by
  rw [net_first ok hg]; exact net_run ok hg hs l _ (.start t)
end Go.Proofs.Ytlafiddfplhafaa
/- Boxes of the call's own. -/
namespace Go.Proofs.Ytlafiddfplhafaa
set_option linter.unusedVariables false
set_option linter.unusedSimpArgs false
open Go.RowKit
/-- A block of the call's own that holds these cells. -/
def Box (w : World) (b : Nat) (T : TypeId) (cs : List Value) : Prop := w.heap[b]? = some (.cells cs.toArray T (0, 0))
section
variable {w w' : World} {b : Nat} {T : TypeId} {cs : List Value}
theorem Box.lt (h : Box w b T cs) : b < w.heap.size := (Array.getElem?_eq_some_iff.1 h).1
theorem Box.cell (h : Box w b T cs) (k : Nat) : w.cell? ⟨b, k, none⟩ = cs[k]? := by rw [cell_of_row w b k cs.toArray T (0, 0) h]; simp
theorem Box.free (h : Box w b T cs) (k : Nat) : w.frozen? ⟨b, k, none⟩ = false := frozen_of_row w b k cs.toArray T h
theorem Box.ext (h : Box w b T cs) (hx : Ext w w') : Box w' b T cs := (hx.block b h.lt).trans h
theorem Box.set (h : Box w b T cs) (k : Nat) (u : Value) : Box (w.setCell ⟨b, k, none⟩ u) b T (cs.set k u) := by
  have := heap_setCell_same w b k cs.toArray T u h
  unfold Box; rw [this]; simp
theorem Box.kept {row : Option Nat} (h : Box w b T cs) (hg : w.grownBy w' row) (hne : row ≠ some b) : Box w' b T cs :=
  (hg.block b h.lt (fun e => hne e.symm)).trans h
theorem Box.new (w : World) (cs : List Value) (T : TypeId) : Box (w.alloc (.cells cs.toArray T)) w.heap.size T cs := heap_alloc_new w _
theorem Box.apart (h : Box w b T cs) {base : Nat} {e : TypeId} {size n : Nat} {v : Value} {xs : List Value} (ho : w.ownsRow base e size v n xs) (hne : e ≠ T) : v.ownBlock ≠ some b := by
  rcases ho.2 with ⟨rfl, _⟩ | ⟨g, cap, cur, rfl, _, hg, _⟩
  · simp [Value.ownBlock]
  · intro e1
    have e2 : g = b := Option.some.inj e1
    subst e2
    rw [h] at hg; injection hg with hg; injection hg with _ h3 _
    exact hne h3.symm
theorem own_set {base : Nat} {e : TypeId} {size n : Nat} {v : Value} {xs : List Value} (ho : w.ownsRow base e size v n xs) (hb : v.ownBlock ≠ some b) (k : Nat) (u : Value) : (w.setCell ⟨b, k, none⟩ u).ownsRow base e size v n xs := own_other ho hb
end
end Go.Proofs.Ytlafiddfplhafaa
/- The rule of Flow for regions in which an operation of the rest waits for the front by way of others. -/
namespace Go.Proofs.Ytlafiddfplhafaa
set_option linter.unusedVariables false
set_option linter.unusedSimpArgs false
open Go.RowKit
/-- What is listed has all listed for which it waits. -/
def Closed (ops : Array Oper) (listed : Array Bool) : Prop := ∀ (i : Nat) (o : Oper), listed.getD i false = true → ops[i]? = some o → ∀ e ∈ o.after.toList, Region.binds .any e = true → listed.getD e.on false = true
theorem Closed.set {ops : Array Oper} {listed : Array Bool} (h : Closed ops listed) (hs : listed.size = ops.size) {i : Nat} (hi : i ∈ Region.ready .any ops listed) : Closed ops (listed.setIfInBounds i true) := by
  obtain ⟨o0, ho0, hd0⟩ := ready_of hi
  have up : ∀ k : Nat, listed.getD k false = true → (listed.setIfInBounds i true).getD k false = true := fun k hk => by
    by_cases e : k = i
    · subst e
      have hlt : k < listed.size := by rw [hs]; exact (Array.getElem?_eq_some_iff.1 ho0).1
      rw [Array.getD_eq_getD_getElem?, Array.getElem?_setIfInBounds_self_of_lt hlt]; rfl
    · rw [Array.getD_eq_getD_getElem?, Array.getElem?_setIfInBounds_ne (fun q => e q.symm), ← Array.getD_eq_getD_getElem?]; exact hk
  intro k o hk ho e he hb
  by_cases q : k = i
  · subst q
    rw [ho0] at ho; injection ho with ho; subst ho
    exact up _ (hd0 e he hb)
  · rw [Array.getD_eq_getD_getElem?, Array.getElem?_setIfInBounds_ne (fun e => q e.symm), ← Array.getD_eq_getD_getElem?] at hk
    exact up _ (h k o hk ho e he hb)
/-- An operation waits for j, by itself or by others. -/
def needsOp (ops : Array Oper) : Nat → Nat → Oper → Bool
  | 0, j, o => waitsFor o j
  | f + 1, j, o => waitsFor o j || o.after.toList.any fun e => Region.binds .any e && match ops[e.on]? with | some o' => needsOp ops f j o' | none => false
theorem needsOp_spec {ops : Array Oper} {listed : Array Bool} (hc : Closed ops listed) {j : Nat} : ∀ (f : Nat) (o : Oper), needsOp ops f j o = true → (∀ e ∈ o.after.toList, Region.binds .any e = true → listed.getD e.on false = true) → listed.getD j false = true
  | 0, o, h, hd => waitsFor_spec h hd
  | f + 1, o, h, hd => by
    unfold needsOp at h
    rw [Bool.or_eq_true] at h
    rcases h with h | h
    · exact waitsFor_spec h hd
    · obtain ⟨e, he, h2⟩ := List.any_eq_true.1 h
      rw [Bool.and_eq_true] at h2
      obtain ⟨hb, h2⟩ := h2
      have hl := hd e he hb
      cases ho : ops[e.on]? with
      | none => rw [ho] at h2; cases h2
      | some o' =>
        rw [ho] at h2
        exact needsOp_spec hc f o' h2 (hc e.on o' hl ho)
def sufOK4 (ops : Array Oper) (m : Nat) : Bool := (List.range ops.size).all fun i => decide (i < m) || match ops[i]? with | some o => (List.range m).all (fun j => needsOp ops 40 j o) | none => true
theorem wpAny_inv_pre4 {P : Program} {ops : Array Oper} {Q : Exit → Act → World → Prop} {m n : Nat} (hsz : ops.size = m + n) (hsuf : sufOK4 ops m = true) (I : Array Bool → Act → World → Prop) (hcl : ∀ listed a w, I listed a w → Closed ops listed)
    (step : ∀ listed a w i, listed.size = ops.size → I listed a w → i < m → i ∈ Region.ready .any ops listed → wpOp P ops Q i (I (listed.setIfInBounds i true)) a w)
    (ready : ∀ listed a w, listed.size = ops.size → I listed a w → Region.ready .any ops listed = [] → ∀ j : Nat, j < m → listed.getD j false = true)
    (rest : ∀ a w, I (preL m n) a w → wpAny P .any ops Q n (preL m n) a w) :
    ∀ (k : Nat) (listed : Array Bool) (a : Act) (w : World), listed.size = ops.size → listed.toList.count false = n + k → (∀ j : Nat, m ≤ j → listed.getD j false = false) → I listed a w → wpAny P .any ops Q (n + k) listed a w
  | 0, listed, a, w, hs, hc, h2, hI => by
    have := listed_pre (m := m) (n := n) (by omega) (count_true_pre (m := m) (n := n) (by omega) (by omega) h2) h2
    subst this
    exact rest a w hI
  | k + 1, listed, a, w, hs, hc, h2, hI => by
    have hnot : ¬ ∀ j : Nat, j < m → listed.getD j false = true := by
      intro h
      have e := listed_pre (m := m) (n := n) (by omega) h h2
      rw [e] at hc
      simp [preL, List.count_append, List.count_replicate] at hc
    show wpAny P .any ops Q ((n + k) + 1) listed a w
    refine ⟨fun hr => absurd (ready listed a w hs hI hr) hnot, fun i hi => ?_⟩
    have hi2 := hi
    have him : i < m := by
      rcases Nat.lt_or_ge i m with q | q
      · exact q
      · exfalso; apply hnot
        obtain ⟨o, ho, hdep⟩ := ready_of hi
        have h3 := List.all_eq_true.1 hsuf i (List.mem_range.2 (Array.getElem?_eq_some_iff.1 ho).1)
        rw [ho] at h3
        simp only [Bool.or_eq_true, decide_eq_true_eq] at h3
        rcases h3 with h3 | h3
        · omega
        · intro j hj
          exact needsOp_spec (hcl listed a w hI) _ o (List.all_eq_true.1 h3 j (List.mem_range.2 hj)) hdep
    refine wpOp_mono (fun a' w' h => wpAny_inv_pre4 hsz hsuf I hcl step ready rest k _ a' w' (by simpa using hs) ?_ ?_ h) (step listed a w i hs hI him hi)
    · have hm : i < ops.size ∧ listed.getD i true = false := by
        unfold Region.ready at hi2
        obtain ⟨g1, g2⟩ := List.mem_filter.1 hi2
        refine ⟨List.mem_range.1 g1, ?_⟩
        simp only [Bool.and_eq_true, Bool.not_eq_true'] at g2
        exact g2.1
      obtain ⟨g1, g2⟩ := hm
      have hlt : i < listed.size := by omega
      have hx : listed.toList[i]'(by simpa using hlt) = false := by simpa [Array.getD, hlt] using g2
      have := List.count_set (a := true) (b := false) (l := listed.toList) (i := i) (by simpa using hlt)
      simp only [Array.toList_setIfInBounds]
      have hpos : 0 < listed.toList.count false := List.count_pos_iff.2 (by rw [← hx]; exact List.getElem_mem _)
      rw [this, hx]
      have e1 : (if (false == false) = true then 1 else 0) = 1 := rfl
      have e2 : (if (true == false) = true then 1 else 0) = 0 := rfl
      rw [e1, e2]; omega
    · intro j hj
      rw [getD_set_ne false (by omega)]; exact h2 j hj
end Go.Proofs.Ytlafiddfplhafaa
/- What sweep calls of Go's library: stores cloned, a number repeated, rows one behind the other; boxes of the call's own. -/
namespace Go.Proofs.Ytlafiddfplhafaa
set_option linter.unusedVariables false
set_option linter.unusedSimpArgs false
open Go.RowKit
/-- Cells that stand behind one another from a slice's head on. -/
def SlC (w : World) (A : Option Addr) (cs : List Value) : Prop := ∀ (j : Nat) u, cs[j]? = some u → ∃ b off, A = some ⟨b, off, none⟩ ∧ w.cell? ⟨b, off + j, none⟩ = some u
theorem SlC.keep {w w' : World} {A : Option Addr} {cs : List Value} (h : SlC w A cs) (hk : Keeps w w') : SlC w' A cs :=
  fun j u hu => let ⟨b, o, e, hc⟩ := h j u hu; ⟨b, o, e, hk _ _ hc⟩
def storeCs (rs : List StoreM) : List Value := rs.flatMap fun r => [RB r, RN r]
theorem storeCs_len (rs : List StoreM) : (storeCs rs).length = rs.length * 2 := by
  unfold storeCs
  induction rs with
  | nil => rfl
  | cons r rs ih => simp only [List.flatMap_cons, List.length_append, List.length_cons, List.length_nil, ih]; omega
theorem slR_own {w : World} {base : Nat} {A : Option Addr} {n c : Nat} {rs : List StoreM} (h : w.ownsRow base 79 2 (.slice A n c) n (storeCs rs)) : SlR w A n rs := by
  have hl : rs.length = n := by have := h.1; rw [storeCs_len] at this; omega
  obtain ⟨A', c', e, -, -, hc⟩ := own_slice h
  injection e with e _ _; subst e
  refine ⟨hl, fun k r hr => ?_⟩
  have hf := flat2_get RB RN rs k
  rw [hr] at hf
  obtain ⟨b, off, e1, c1⟩ := hc _ _ hf.1
  obtain ⟨b', off', e2, c2⟩ := hc _ _ hf.2
  rw [e1] at e2; injection e2 with e2; injection e2 with e2 e3; subst e2; subst e3
  exact ⟨b, off, e1, c1, c2⟩
theorem tab_store : (Try.prog.info? 79).map (fun i => (i.zero, i.size, i.bytes)) = some (some (.agg #[.bool false, .int .i64 0]), 2, 16) := by kernel_rfl
end Go.Proofs.Ytlafiddfplhafaa
