/- A net that is read as data opens to the words of NetLib. -/
import Derived.Test.YtjagbnaacfhokaaPk01
import Derived.Lib.SmallJoins
import Derived.Orders
namespace Go.Proofs.Ytjagbnaacfhokaa
set_option linter.unusedVariables false
set_option linter.unusedSimpArgs false
open Go.ChangeShapes Go.WideShapes Go.Deep Go.RowKit Go.Joins

theorem list_of {α : Type} {Q : Nat → α → Prop} (len : Nat) (h : ∀ i, i < len → ∃ y, Q i y) : ∃ p : List α, p.length = len ∧ ∀ i y, p[i]? = some y → Q i y := by
  have : ∀ m, m ≤ len → ∃ p : List α, p.length = m ∧ ∀ i y, p[i]? = some y → Q i y := by
    intro m
    induction m with
    | zero => exact fun _ => ⟨[], rfl, by simp⟩
    | succ m ih =>
      intro hm
      obtain ⟨p, hp, hp2⟩ := ih (by omega)
      obtain ⟨y, hy⟩ := h m (by omega)
      refine ⟨p ++ [y], by simp [hp], fun i z hz => ?_⟩
      rw [List.getElem?_append] at hz
      split at hz
      · exact hp2 i z hz
      · have hi : i = m := by
          rcases Nat.eq_or_lt_of_le (show m ≤ i by omega) with e | e
          · exact e.symm
          · rw [List.getElem?_eq_none (by simp; omega)] at hz; cases hz
        subst hi
        simp [hp] at hz; subst hz
        exact hy
  exact this len (Nat.le_refl _)
theorem spot_of {w : World} {a : Addr} {k : Nat} {u : Value} (h : w.cell? (a.add k) = some u) (hk : k = 0) : ∃ b o, a = ⟨b, o, none⟩ := by
  have hs := spot_none h hk
  obtain ⟨b, o, s⟩ := a
  subst hs
  exact ⟨b, o, rfl⟩

section
variable {H : Type} {enc : TypeId × Value → H} {w : World} {base : Nat} {held : Bool} {fuel : Nat}
theorem open_sl {v : Value} {x : DataW H × List MemPlace} (h : DataW.trod enc Try.prog w base (fun _ => true) held fuel 24 [v] = some x) :
    ∃ (A : Option Addr) (n c : Nat) (zs : List Int), v = .slice A n c ∧ Sl w A n (zs.map I) ∧ n ≤ c ∧ c ≤ maxLen ∧ ∀ z ∈ zs, (Lit.int .i64 z).wf = true := by
  rcases open_ints Try.underlying24 Try.underlying3 (by kernel_rfl) h with ⟨hcs, _⟩ | ⟨x, l, c, zs, hcs, _, hl, hm, hz, hx, hcell, hwz⟩
  · simp at hcs; subst hcs
    exact ⟨none, 0, 0, [], rfl, Sl.nil _ _, Nat.le_refl _, Nat.zero_le _, by simp⟩
  · simp at hcs; subst hcs
    simp only [if_true] at hz
    exact ⟨some x, l, c, zs.take l, rfl, sl_of_row hl (by simpa using hz) hcell, hl, hm, fun n hn => hwz n (List.mem_of_mem_take hn)⟩
theorem open_gates {v : Value} {x : DataW H × List MemPlace} (h : DataW.trod enc Try.prog w base (fun _ => true) held fuel 22 [v] = some x) :
    ∃ (A : Option Addr) (n c : Nat) (gs : List GateM), v = .slice A n c ∧ SlG w A n gs ∧ n ≤ c ∧ c ≤ maxLen := by
  rcases open_slice_fields (P := Try.prog) (fs := _) Try.underlying22 Try.underlying34 (by kernel_rfl) (by kernel_rfl) h with ⟨e, rfl⟩ | ⟨a, len, cap, m, D, Pl, e, hb, hl, hm, hmm, hx, hf⟩
  · simp at e; subst e
    exact ⟨none, 0, 0, [], rfl, ⟨rfl, by simp⟩, Nat.le_refl _, Nat.zero_le _⟩
  · simp at e; subst e
    simp only [if_true] at hmm
    obtain ⟨gs, hgl, hgs⟩ := list_of (α := GateM) (Q := fun i g => w.cell? (a.add (i * 3)) = some (I g.kind) ∧ w.cell? (a.add (i * 3 + 1)) = some (I g.num) ∧ ∃ A' n c, w.cell? (a.add (i * 3 + 2)) = some (.slice A' n c) ∧ Sl w A' n (g.args.map I) ∧ n ≤ c ∧ c ≤ maxLen) len (by
      intro i hi
      obtain ⟨ys, n, _, _, _, hff⟩ := hf i (by omega)
      obtain ⟨v0, y0, hc0, hy0, ht0⟩ := hff 0 _ rfl
      obtain ⟨v1, y1, hc1, hy1, ht1⟩ := hff 1 _ rfl
      obtain ⟨v2, y2, hc2, hy2, ht2⟩ := hff 2 _ rfl
      obtain ⟨k0, e0, _, wf0⟩ := DataW.trod_int Try.underlying3 ht0
      obtain ⟨k1, e1, _, wf1⟩ := DataW.trod_int Try.underlying3 ht1
      obtain ⟨A', n', c', zs, e2, hs, h1, h2, _⟩ := open_sl ht2
      simp only [List.cons.injEq, and_true] at e0 e1
      subst e0; subst e1; subst e2
      exact ⟨⟨k0, k1, zs⟩, hc0, hc1, A', n', c', hc2, hs, h1, h2⟩)
    refine ⟨some a, len, cap, gs, rfl, ⟨hgl, fun k g hg => ?_⟩, hl, hm⟩
    obtain ⟨h0, h1, A', n', c', h2, h3, h4, h5⟩ := hgs k g hg
    obtain ⟨b, o, rfl⟩ : ∃ b o, a = ⟨b, o, none⟩ := by
      have hk0 : 0 < gs.length := by have := (List.getElem?_eq_some_iff.1 hg).1; omega
      exact spot_of (hgs 0 _ (List.getElem?_eq_getElem hk0)).1 (by omega)
    rw [add_plain'] at h0 h1 h2
    exact ⟨b, o, A', n', c', rfl, h0, by rw [Nat.add_assoc]; exact h1, by rw [Nat.add_assoc]; exact h2, h3, h4, h5⟩
theorem open_stores {v : Value} {x : DataW H × List MemPlace} (h : DataW.trod enc Try.prog w base (fun _ => true) held fuel 23 [v] = some x) :
    ∃ (A : Option Addr) (n c : Nat) (rs : List StoreM), v = .slice A n c ∧ SlR w A n rs ∧ n ≤ c ∧ c ≤ maxLen := by
  rcases open_slice_fields (P := Try.prog) (fs := _) Try.underlying23 Try.underlying78 (by kernel_rfl) (by kernel_rfl) h with ⟨e, rfl⟩ | ⟨a, len, cap, m, D, Pl, e, hb, hl, hm, hmm, hx, hf⟩
  · simp at e; subst e
    exact ⟨none, 0, 0, [], rfl, Sl2.nil _ _ _ _, Nat.le_refl _, Nat.zero_le _⟩
  · simp at e; subst e
    simp only [if_true] at hmm
    obtain ⟨gs, hgl, hgs⟩ := list_of (α := StoreM) (Q := fun i g => w.cell? (a.add (i * 2)) = some (RB g) ∧ w.cell? (a.add (i * 2 + 1)) = some (RN g)) len (by
      intro i hi
      obtain ⟨ys, n, _, _, _, hff⟩ := hf i (by omega)
      obtain ⟨v0, y0, hc0, hy0, ht0⟩ := hff 0 _ rfl
      obtain ⟨v1, y1, hc1, hy1, ht1⟩ := hff 1 _ rfl
      obtain ⟨k0, e0, _⟩ := DataW.trod_bool Try.underlying4 ht0
      obtain ⟨k1, e1, _, wf1⟩ := DataW.trod_int Try.underlying3 ht1
      simp only [List.cons.injEq, and_true] at e0 e1
      subst e0; subst e1
      exact ⟨⟨k0, k1⟩, hc0, hc1⟩)
    refine ⟨some a, len, cap, gs, rfl, ⟨hgl, fun k g hg => ?_⟩, hl, hm⟩
    obtain ⟨h0, h1⟩ := hgs k g hg
    obtain ⟨b, o, rfl⟩ : ∃ b o, a = ⟨b, o, none⟩ := by
      have hk0 : 0 < gs.length := by have := (List.getElem?_eq_some_iff.1 hg).1; omega
      exact spot_of (hgs 0 _ (List.getElem?_eq_getElem hk0)).1 (by omega)
    rw [add_plain'] at h0 h1
    exact ⟨b, o, rfl, h0, by rw [Nat.add_assoc]; exact h1⟩
set_option maxRecDepth 100000 in
theorem open_net {r : Reach} {b0 : Nat} {v : Value} {d : DataW H} {p : List MemPlace} (hv : Value.okWide Try.prog w r b0 26 v) (h : DataW.Trod enc Try.prog w base (fun _ => true) held 26 v d p) :
    ∃ (i : Int) (GA : Option Addr) (gn gc : Nat) (RA : Option Addr) (rn rc : Nat) (OA : Option Addr) (on oc : Nat) (N : NetM), v = netV i GA gn gc RA rn rc OA on oc ∧ NetC w i GA gn gc RA rn rc OA on oc N ∧ -9223372036854775808 ≤ i ∧ i ≤ 9223372036854775807 := by
  obtain ⟨c0, c1, c2, c3, y0, y1, y2, y3, m, rfl, rfl, rfl, h0, h1, h2, h3⟩ := open_agg4 Try.underlying26 (by kernel_rfl) (by kernel_rfl) hv h
  obtain ⟨k0, e0, _, wf0⟩ := DataW.trod_int Try.underlying3 h0
  simp only [List.cons.injEq, and_true] at e0
  subst e0
  obtain ⟨GA, gn, gc, gs, rfl, g1, g2, g3⟩ := open_gates h1
  obtain ⟨RA, rn, rc, rs, rfl, r1, r2, r3⟩ := open_stores h2
  obtain ⟨OA, on, oc, os, rfl, o1, o2, o3, _⟩ := open_sl h3
  have hw : -9223372036854775808 ≤ k0 ∧ k0 ≤ 9223372036854775807 := by simpa [Lit.wf, IntKind.min, IntKind.max, IntKind.signed, IntKind.bits] using wf0
  exact ⟨k0, GA, gn, gc, RA, rn, rc, OA, on, oc, ⟨k0, gs, rs, os⟩, rfl, ⟨rfl, g1, r1, o1, ⟨g2, g3⟩, ⟨r2, r3⟩, ⟨o2, o3⟩⟩, hw⟩
end
end Go.Proofs.Ytjagbnaacfhokaa
/- Who is needed, in plain Lean: the work list and the rounds tell the same. No program in sight. -/
namespace Go.Proofs.Ytjagbnaacfhokaa
set_option linter.unusedVariables false
set_option linter.unusedSimpArgs false

def argsI (gs : List GateM) (k : Int) : List Int := (gs[k.toNat]?.map (·.args)).getD []
def onI (o : List Bool) (k : Int) : Bool := o[k.toNat]?.getD false
def markM (o : List Bool) (l : List Int) : List Bool := l.foldl (fun o a => o.set a.toNat true) o
def roundFrom : List GateM → Nat → List Bool → List Bool
  | [], _, o => o
  | g :: l, k, o => roundFrom l (k + 1) (if onI o k then markM o g.args else o)
def roundM (gs : List GateM) (o : List Bool) : List Bool := roundFrom gs 0 o
def roundsM (gs : List GateM) : Nat → List Bool → List Bool
  | 0, o => o
  | n + 1, o => roundsM gs n (roundM gs o)
def needsM (gs : List GateM) (l : List Int) : List Bool := roundsM gs gs.length (markM (List.replicate gs.length false) l)
def inR (n : Nat) (l : List Int) : Prop := ∀ k ∈ l, 0 ≤ k ∧ k < n
def okArgs (gs : List GateM) : Prop := ∀ g ∈ gs, inR gs.length g.args

inductive NReach (gs : List GateM) (l : List Int) : Int → Prop
  | base {k : Int} : k ∈ l → NReach gs l k
  | step {k a : Int} : NReach gs l k → a ∈ argsI gs k → NReach gs l a

theorem argsI_mem {gs : List GateM} {k a : Int} (h : a ∈ argsI gs k) : ∃ g, gs[k.toNat]? = some g ∧ a ∈ g.args := by
  unfold argsI at h
  cases e : gs[k.toNat]? with
  | none => simp [e] at h
  | some g => exact ⟨g, rfl, by simpa [e] using h⟩
theorem argsI_range {gs : List GateM} (h : okArgs gs) {k a : Int} (ha : a ∈ argsI gs k) : 0 ≤ a ∧ a < gs.length := by
  obtain ⟨g, hg, hm⟩ := argsI_mem ha
  exact h g (List.mem_of_getElem? hg) a hm
theorem reach_range {gs : List GateM} (h : okArgs gs) {l : List Int} (hl : inR gs.length l) {k : Int} (r : NReach gs l k) : 0 ≤ k ∧ k < gs.length := by
  cases r with
  | base hk => exact hl _ hk
  | step _ ha => exact argsI_range h ha

/-! lists of flags -/
theorem onI_set (o : List Bool) (a k : Int) (h0 : 0 ≤ a) (h1 : a < o.length) (k0 : 0 ≤ k) : onI (o.set a.toNat true) k = (onI o k || decide (k = a)) := by
  unfold onI
  rw [List.getElem?_set]
  by_cases e : k = a
  · subst e; rw [if_pos rfl, if_pos (by omega)]; simp
  · have : ¬ a.toNat = k.toNat := by omega
    simp [this, e]
theorem markM_length (l : List Int) : ∀ o : List Bool, (markM o l).length = o.length := by
  induction l with
  | nil => intro o; rfl
  | cons a l ih => intro o; simp only [markM, List.foldl_cons] at *; rw [ih]; simp
theorem onI_mark (l : List Int) (k : Int) (k0 : 0 ≤ k) : ∀ o : List Bool, inR o.length l → (onI (markM o l) k = true ↔ onI o k = true ∨ k ∈ l) := by
  induction l with
  | nil => intro o _; simp [markM]
  | cons a l ih =>
    intro o h
    have ha := h a (by simp)
    have h2 := ih (o.set a.toNat true) (fun x hx => by simpa using h x (by simp [hx]))
    simp only [markM, List.foldl_cons] at h2 ⊢
    rw [h2, onI_set o a k ha.1 ha.2 k0]
    simp only [Bool.or_eq_true, decide_eq_true_eq, List.mem_cons]
    constructor
    · rintro ((h | h) | h)
      · exact .inl h
      · exact .inr (.inl h)
      · exact .inr (.inr h)
    · rintro (h | h | h)
      · exact .inl (.inl h)
      · exact .inl (.inr h)
      · exact .inr h
theorem flags_ext {a b : List Bool} (hl : a.length = b.length) (h : ∀ k : Nat, k < a.length → onI a k = onI b k) : a = b := by
  apply List.ext_getElem hl
  intro i h1 h2
  have := h i h1
  simpa [onI, List.getElem?_eq_getElem h1, List.getElem?_eq_getElem h2] using this
theorem onI_lt {o : List Bool} {k : Int} (h : onI o k = true) : k.toNat < o.length := by
  unfold onI at h
  rcases Nat.lt_or_ge k.toNat o.length with e | e
  · exact e
  · rw [List.getElem?_eq_none e] at h; cases h

/-- What is needed: closed, and nothing else than is reached. -/
structure Least (gs : List GateM) (l : List Int) (o : List Bool) : Prop where
  len : o.length = gs.length
  sound : ∀ k : Int, 0 ≤ k → onI o k = true → NReach gs l k
  all : ∀ k ∈ l, onI o k = true
  closed : ∀ k : Int, 0 ≤ k → onI o k = true → ∀ a ∈ argsI gs k, onI o a = true
theorem Least.iff {gs : List GateM} {l : List Int} {o : List Bool} (h : Least gs l o) (ok : okArgs gs) (hl : inR gs.length l) {k : Int} (h0 : 0 ≤ k) : onI o k = true ↔ NReach gs l k := by
  refine ⟨h.sound k h0, fun r => ?_⟩
  induction r with
  | base hk => exact h.all _ hk
  | step r ha ih => exact h.closed _ (reach_range ok hl r).1 (ih (reach_range ok hl r).1) _ ha
theorem Least.uniq {gs : List GateM} {l : List Int} {a b : List Bool} (h : Least gs l a) (k : Least gs l b) (ok : okArgs gs) (hl : inR gs.length l) : a = b := by
  refine flags_ext (by rw [h.len, k.len]) fun i _ => ?_
  rw [Bool.eq_iff_iff, h.iff ok hl (by omega), k.iff ok hl (by omega)]

/-! the rounds -/
def subB : List Bool → List Bool → Bool
  | [], [] => true
  | x :: a, y :: b => (!x || y) && subB a b
  | _, _ => false
theorem subB_refl (a : List Bool) : subB a a = true := by
  induction a with
  | nil => rfl
  | cons x a ih => cases x <;> simp [subB, ih]
theorem subB_trans : ∀ {a b c : List Bool}, subB a b = true → subB b c = true → subB a c = true
  | [], [], [], _, _ => rfl
  | [], [], z :: c, _, h => by simp [subB] at h
  | [], y :: b, _, h, _ => by simp [subB] at h
  | x :: a, [], _, h, _ => by simp [subB] at h
  | x :: a, y :: b, [], _, h => by simp [subB] at h
  | x :: a, y :: b, z :: c, h, k => by
    simp only [subB, Bool.and_eq_true] at *
    exact ⟨by cases x <;> cases y <;> cases z <;> simp_all, subB_trans h.2 k.2⟩
theorem subB_anti : ∀ {a b : List Bool}, subB a b = true → subB b a = true → a = b
  | [], [], _, _ => rfl
  | [], y :: b, h, _ => by simp [subB] at h
  | x :: a, [], h, _ => by simp [subB] at h
  | x :: a, y :: b, h, k => by
    simp only [subB, Bool.and_eq_true] at *
    rw [subB_anti h.2 k.2]; cases x <;> cases y <;> simp_all
theorem subB_set : ∀ (o : List Bool) (k : Nat), subB o (o.set k true) = true
  | [], _ => rfl
  | x :: o, 0 => by simp [subB, subB_refl]
  | x :: o, k + 1 => by simp [subB, subB_set o k]
theorem subB_mark (l : List Int) : ∀ o : List Bool, subB o (markM o l) = true := by
  induction l with
  | nil => intro o; exact subB_refl o
  | cons a l ih => intro o; exact subB_trans (subB_set o _) (ih _)
theorem subB_len : ∀ {a b : List Bool}, subB a b = true → a.length = b.length
  | [], [], _ => rfl
  | [], y :: b, h => by simp [subB] at h
  | x :: a, [], h => by simp [subB] at h
  | x :: a, y :: b, h => by simp only [subB, Bool.and_eq_true] at h; simp [subB_len h.2]
theorem subB_at : ∀ {a b : List Bool} (k : Nat), subB a b = true → a[k]?.getD false = true → b[k]?.getD false = true
  | [], _, k, _, h => by simp at h
  | x :: a, [], _, h, _ => by simp [subB] at h
  | x :: a, y :: b, 0, h, k => by simp only [subB, Bool.and_eq_true] at h; simp_all
  | x :: a, y :: b, n + 1, h, k => by simp only [subB, Bool.and_eq_true] at h; simpa using subB_at n h.2 (by simpa using k)
def cnt (o : List Bool) : Nat := o.countP id
theorem cnt_le : ∀ {a b : List Bool}, subB a b = true → cnt a ≤ cnt b ∧ (cnt a = cnt b → a = b)
  | [], [], _ => ⟨Nat.le_refl _, fun _ => rfl⟩
  | [], y :: b, h => by simp [subB] at h
  | x :: a, [], h => by simp [subB] at h
  | x :: a, y :: b, h => by
    simp only [subB, Bool.and_eq_true] at h
    obtain ⟨h1, h2⟩ := cnt_le h.2
    unfold cnt at *
    cases x <;> cases y <;> simp_all <;> omega
theorem cnt_max (o : List Bool) : cnt o ≤ o.length := List.countP_le_length
theorem roundFrom_sub (l : List GateM) : ∀ (k : Nat) (o : List Bool), subB o (roundFrom l k o) = true := by
  induction l with
  | nil => intro k o; exact subB_refl o
  | cons g l ih =>
    intro k o
    simp only [roundFrom]
    split
    · exact subB_trans (subB_mark _ _) (ih _ _)
    · exact ih _ _
theorem roundFrom_sound {gs : List GateM} {q : List Int} (ok : okArgs gs) (hq : inR gs.length q) (l : List GateM) : ∀ (k : Nat) (o : List Bool), gs.drop k = l → o.length = gs.length → (∀ i : Int, 0 ≤ i → onI o i = true → NReach gs q i) →
    ∀ i : Int, 0 ≤ i → onI (roundFrom l k o) i = true → NReach gs q i := by
  induction l with
  | nil => intro k o _ _ h; exact h
  | cons g l ih =>
    intro k o hd ho h i hi hon
    simp only [roundFrom] at hon
    have hk : gs[k]? = some g := by
      have : (gs.drop k)[0]? = some g := by rw [hd]; rfl
      simpa using this
    have hd' : gs.drop (k + 1) = l := by rw [← List.drop_drop, hd]; rfl
    split at hon
    · rename_i hk2
      refine ih (k + 1) _ hd' (by rw [markM_length, ho]) (fun j hj hj2 => ?_) i hi hon
      have hr : inR o.length g.args := by rw [ho]; exact ok g (List.mem_of_getElem? hk)
      rcases (onI_mark g.args j hj o hr).1 hj2 with e | e
      · exact h j hj e
      · exact .step (h k (by omega) hk2) (by simp [argsI, hk, e])
    · exact ih (k + 1) o hd' ho h i hi hon
theorem roundFrom_fix {gs : List GateM} (ok : okArgs gs) (l : List GateM) : ∀ (k : Nat) (o : List Bool), gs.drop k = l → o.length = gs.length → subB (roundFrom l k o) o = true →
    ∀ (j : Nat) (g : GateM), l[j]? = some g → onI o ((k + j : Nat) : Int) = true → ∀ a ∈ g.args, onI o a = true := by
  induction l with
  | nil => intro k o _ _ _ j g h; simp at h
  | cons g l ih =>
    intro k o hd ho h j x hj hon a ha
    have hk : gs[k]? = some g := by
      have : (gs.drop k)[0]? = some g := by rw [hd]; rfl
      simpa using this
    have hd' : gs.drop (k + 1) = l := by rw [← List.drop_drop, hd]; rfl
    simp only [roundFrom] at h
    generalize hb : onI o k = b at h
    cases b
    · simp only [Bool.false_eq_true, if_false] at h
      cases j with
      | zero => simp at hon; rw [hon] at hb; cases hb
      | succ j => exact ih (k + 1) o hd' ho h j x (by simpa using hj) (by rw [show k + 1 + j = k + (j + 1) from by omega]; exact hon) a ha
    · simp only [if_true] at h
      have hm : markM o g.args = o := subB_anti (subB_trans (roundFrom_sub l (k + 1) _) h) (subB_mark _ _)
      rw [hm] at h
      cases j with
      | zero =>
        simp at hj; subst hj
        have hr : inR o.length g.args := by rw [ho]; exact ok g (List.mem_of_getElem? hk)
        have := (onI_mark g.args a (hr a ha).1 o hr).2 (.inr ha)
        rwa [hm] at this
      | succ j => exact ih (k + 1) o hd' ho h j x (by simpa using hj) (by rw [show k + 1 + j = k + (j + 1) from by omega]; exact hon) a ha
theorem roundM_len (gs : List GateM) (o : List Bool) : (roundM gs o).length = o.length := (subB_len (roundFrom_sub gs 0 o)).symm
theorem roundsM_fixed (gs : List GateM) (n : Nat) : ∀ o, roundM gs o = o → roundsM gs n o = o := by
  induction n with
  | zero => intro o _; rfl
  | succ n ih => intro o h; simp only [roundsM, h]; exact ih o h
theorem roundsM_fix (gs : List GateM) (n : Nat) : ∀ o : List Bool, o.length - cnt o ≤ n → roundM gs (roundsM gs n o) = roundsM gs n o := by
  induction n with
  | zero =>
    intro o h
    simp only [roundsM]
    have h1 := cnt_le (roundFrom_sub gs 0 o)
    have h2 := cnt_max (roundFrom gs 0 o)
    have h3 := cnt_max o
    have h4 := roundM_len gs o
    unfold roundM at *
    exact (h1.2 (by omega)).symm
  | succ n ih =>
    intro o h
    by_cases e : roundM gs o = o
    · rw [roundsM_fixed gs (n + 1) o e]; exact e
    · simp only [roundsM]
      refine ih _ ?_
      have h1 := cnt_le (roundFrom_sub gs 0 o)
      have h4 := roundM_len gs o
      have : cnt o ≠ cnt (roundM gs o) := fun hc => e (h1.2 hc).symm
      unfold roundM at *
      omega
theorem roundsM_len (gs : List GateM) (n : Nat) : ∀ o, (roundsM gs n o).length = o.length := by
  induction n with
  | zero => intro o; rfl
  | succ n ih => intro o; simp only [roundsM]; rw [ih, roundM_len]
theorem roundsM_sub (gs : List GateM) (n : Nat) : ∀ o, subB o (roundsM gs n o) = true := by
  induction n with
  | zero => intro o; exact subB_refl o
  | succ n ih => intro o; exact subB_trans (roundFrom_sub gs 0 o) (ih _)
theorem roundsM_sound {gs : List GateM} {q : List Int} (ok : okArgs gs) (hq : inR gs.length q) (n : Nat) : ∀ o : List Bool, o.length = gs.length → (∀ i : Int, 0 ≤ i → onI o i = true → NReach gs q i) →
    ∀ i : Int, 0 ≤ i → onI (roundsM gs n o) i = true → NReach gs q i := by
  induction n with
  | zero => intro o _ h; exact h
  | succ n ih => intro o ho h; exact ih _ (by rw [roundM_len, ho]) (roundFrom_sound ok hq gs 0 o rfl ho h)
theorem onI_none (n : Nat) (k : Int) : onI (List.replicate n false) k = false := by
  unfold onI; rw [List.getElem?_replicate]; split <;> rfl
theorem needsM_len (gs : List GateM) (l : List Int) : (needsM gs l).length = gs.length := by simp [needsM, roundsM_len, markM_length]
theorem needsM_least {gs : List GateM} {l : List Int} (ok : okArgs gs) (hl : inR gs.length l) : Least gs l (needsM gs l) := by
  have hr : inR (List.replicate gs.length false).length l := by simpa using hl
  have h0 : ∀ k : Int, 0 ≤ k → (onI (markM (List.replicate gs.length false) l) k = true ↔ k ∈ l) := fun k k0 => by
    rw [onI_mark l k k0 _ hr, onI_none]; simp
  refine ⟨needsM_len _ _, fun k k0 h => ?_, fun k hk => ?_, fun k k0 h a ha => ?_⟩
  · exact roundsM_sound ok hl _ _ (by simp [markM_length]) (fun i i0 h => .base ((h0 i i0).1 h)) k k0 h
  · exact subB_at k.toNat (roundsM_sub gs _ _) ((h0 k (hl k hk).1).2 hk)
  · obtain ⟨g, hg, hm⟩ := argsI_mem ha
    have hf := roundsM_fix gs gs.length (markM (List.replicate gs.length false) l) (by simp [markM_length])
    refine roundFrom_fix ok gs 0 _ rfl (needsM_len gs l) (by rw [show roundFrom gs 0 (needsM gs l) = needsM gs l from hf]; exact subB_refl _) k.toNat g hg ?_ a hm
    have : ((0 + k.toNat : Nat) : Int) = k := by omega
    rw [this]; exact h

/-! the work list -/
structure NeedInv (gs : List GateM) (l : List Int) (o : List Bool) (work : List Int) : Prop where
  len : o.length = gs.length
  sound : ∀ k : Int, 0 ≤ k → onI o k = true → NReach gs l k
  ws : ∀ k ∈ work, NReach gs l k
  all : ∀ k ∈ l, onI o k = true ∨ k ∈ work
  closed : ∀ k : Int, 0 ≤ k → onI o k = true → ∀ a ∈ argsI gs k, onI o a = true ∨ a ∈ work
theorem NeedInv.start (gs : List GateM) (l : List Int) : NeedInv gs l (List.replicate gs.length false) l :=
  ⟨by simp, fun k _ h => absurd h (by rw [onI_none]; decide), fun k h => .base h, fun k h => .inr h, fun k _ h => absurd h (by rw [onI_none]; decide)⟩
theorem NeedInv.done {gs : List GateM} {l : List Int} {o : List Bool} (h : NeedInv gs l o []) (ok : okArgs gs) (hl : inR gs.length l) : o = needsM gs l := by
  refine Least.uniq (gs := gs) (l := l) ⟨h.len, h.sound, fun k hk => ?_, fun k k0 hk a ha => ?_⟩ (needsM_least ok hl) ok hl
  · rcases h.all k hk with e | e
    · exact e
    · cases e
  · rcases h.closed k k0 hk a ha with e | e
    · exact e
    · cases e
theorem NeedInv.skip {gs : List GateM} {l : List Int} {o : List Bool} {work : List Int} {k : Int} (h : NeedInv gs l o (work ++ [k])) (hk : onI o k = true) : NeedInv gs l o work :=
  ⟨h.len, h.sound, fun j hj => h.ws j (by simp [hj]), fun j hj => by
    rcases h.all j hj with e | e
    · exact .inl e
    · rcases List.mem_append.1 e with e | e
      · exact .inr e
      · simp at e; subst e; exact .inl hk, fun j j0 hj a ha => by
    rcases h.closed j j0 hj a ha with e | e
    · exact .inl e
    · rcases List.mem_append.1 e with e | e
      · exact .inr e
      · simp at e; subst e; exact .inl hk⟩
theorem NeedInv.range {gs : List GateM} {l : List Int} {o : List Bool} {work : List Int} {k : Int} (h : NeedInv gs l o (work ++ [k])) (ok : okArgs gs) (hl : inR gs.length l) : 0 ≤ k ∧ k < gs.length :=
  reach_range ok hl (h.ws k (by simp))
theorem NeedInv.mark {gs : List GateM} {l : List Int} {o : List Bool} {work : List Int} {k : Int} (h : NeedInv gs l o (work ++ [k])) (ok : okArgs gs) (hl : inR gs.length l) : NeedInv gs l (o.set k.toNat true) (work ++ argsI gs k) := by
  obtain ⟨k0, k1⟩ := h.range ok hl
  have hs : ∀ j : Int, 0 ≤ j → onI (o.set k.toNat true) j = (onI o j || decide (j = k)) := fun j j0 => onI_set o k j k0 (by rw [h.len]; exact k1) j0
  refine ⟨by simp [h.len], fun j j0 hj => ?_, fun j hj => ?_, fun j hj => ?_, fun j j0 hj a ha => ?_⟩
  · rw [hs j j0] at hj
    simp only [Bool.or_eq_true, decide_eq_true_eq] at hj
    rcases hj with e | rfl
    · exact h.sound j j0 e
    · exact h.ws _ (by simp)
  · rcases List.mem_append.1 hj with e | e
    · exact h.ws j (by simp [e])
    · exact .step (h.ws k (by simp)) e
  · rw [hs j (hl j hj).1]
    rcases h.all j hj with e | e
    · simp [e]
    · rcases List.mem_append.1 e with e | e
      · exact .inr (by simp [e])
      · simp at e; simp [e]
  · rw [hs j j0] at hj
    rw [hs a (argsI_range ok ha).1]
    simp only [Bool.or_eq_true, decide_eq_true_eq] at hj
    rcases hj with e | rfl
    · rcases h.closed j j0 e a ha with e | e
      · simp [e]
      · rcases List.mem_append.1 e with e | e
        · exact .inr (by simp [e])
        · simp at e; simp [e]
    · exact .inr (by simp [ha])
/-- What the gates that are not yet marked may still bring. -/
def costN : List GateM → List Bool → Nat
  | g :: gs, b :: o => (if b then 0 else g.args.length) + costN gs o
  | _, _ => 0
theorem costN_set : ∀ (gs : List GateM) (o : List Bool) (k : Nat) (g : GateM), gs[k]? = some g → o[k]? = some false → costN gs (o.set k true) + g.args.length = costN gs o
  | [], _, k, g, h, _ => by simp at h
  | x :: gs, [], k, g, _, h => by simp at h
  | x :: gs, b :: o, 0, g, h, h2 => by simp at h h2; subst h; subst h2; simp [costN]; omega
  | x :: gs, b :: o, k + 1, g, h, h2 => by
    have := costN_set gs o k g (by simpa using h) (by simpa using h2)
    simp [costN]; omega
theorem costN_le (m : Nat) : ∀ (gs : List GateM) (o : List Bool), (∀ g ∈ gs, g.args.length ≤ m) → costN gs o ≤ gs.length * m
  | [], _, _ => by simp [costN]
  | x :: gs, [], _ => by simp [costN]
  | x :: gs, b :: o, h => by
    have h1 := costN_le m gs o (fun g hg => h g (by simp [hg]))
    have h2 := h x (by simp)
    have h3 : (gs.length + 1) * m = gs.length * m + m := Nat.succ_mul _ _
    simp only [costN, List.length_cons, h3]
    split <;> omega

/-! the law NetTrue -/
theorem reach_mono {gs : List GateM} {l q : List Int} (h : ∀ k ∈ l, NReach gs q k) {k : Int} (r : NReach gs l k) : NReach gs q k := by
  induction r with
  | base hk => exact h _ hk
  | step _ ha ih => exact .step ih ha
theorem reach_append {gs : List GateM} {l q : List Int} {k : Int} : NReach gs (l ++ q) k ↔ NReach gs l k ∨ NReach gs q k := by
  constructor
  · intro r
    induction r with
    | base hk =>
      rcases List.mem_append.1 hk with e | e
      · exact .inl (.base e)
      · exact .inr (.base e)
    | step _ ha ih =>
      rcases ih with e | e
      · exact .inl (.step e ha)
      · exact .inr (.step e ha)
  · rintro (r | r)
    · exact reach_mono (fun k hk => .base (by simp [hk])) r
    · exact reach_mono (fun k hk => .base (by simp [hk])) r
theorem needs_more {gs : List GateM} {l : List Int} {g : Int} (ok : okArgs gs) (hl : inR gs.length l) (hg : 0 ≤ g ∧ g < gs.length) (j : Nat) :
    onI (needsM gs (l ++ [g])) j = (onI (needsM gs l) j || onI (needsM gs [g]) j) := by
  have h1 : inR gs.length [g] := fun k hk => by simp at hk; subst hk; exact hg
  have h2 : inR gs.length (l ++ [g]) := fun k hk => by
    rcases List.mem_append.1 hk with e | e
    · exact hl k e
    · exact h1 k e
  rw [Bool.eq_iff_iff, Bool.or_eq_true, (needsM_least ok h2).iff ok h2 (by omega), (needsM_least ok hl).iff ok hl (by omega), (needsM_least ok h1).iff ok h1 (by omega), reach_append]
theorem needs_same {gs : List GateM} {l : List Int} {g : Int} (ok : okArgs gs) (hl : inR gs.length l) (hg : 0 ≤ g ∧ g < gs.length) (hn : onI (needsM gs l) g = true) : needsM gs l = needsM gs (l ++ [g]) := by
  refine flags_ext (by simp [needsM_len]) fun k _ => ?_
  rw [needs_more ok hl hg]
  have h1 : inR gs.length [g] := fun k hk => by simp at hk; subst hk; exact hg
  cases e : onI (needsM gs [g]) k with
  | false => simp
  | true =>
    have r := (needsM_least ok h1).sound k (by omega) e
    have rg := (needsM_least ok hl).sound g hg.1 hn
    have := (needsM_least ok hl).iff ok hl (k := k) (by omega) |>.2 (reach_mono (fun x hx => by simp at hx; subst hx; exact rg) r)
    rw [this]; rfl
theorem needs_args {gs : List GateM} {l : List Int} {g a : Int} (ok : okArgs gs) (hl : inR gs.length l) (hg : 0 ≤ g) (hn : onI (needsM gs l) g = true) (ha : a ∈ argsI gs g) : onI (needsM gs l) a = true :=
  (needsM_least ok hl).closed g hg hn a ha
end Go.Proofs.Ytjagbnaacfhokaa
/- Three values, in plain Lean: what each function computes, and that the program and the reference compute the same. No program in sight. -/
namespace Go.Proofs.Ytjagbnaacfhokaa
set_option linter.unusedVariables false
set_option linter.unusedSimpArgs false

def bad3 (n : Int) : Bool := decide (n < 0) || decide (2 < n)
def gatherM (rules : Int) : List Int → Int → Int
  | [], out => out
  | v :: l, out => if v = rules then rules else gatherM rules l (if v = 2 then 2 else out)

def indexM (q : Int → Bool) : List Int → Int → Int
  | [], _ => -1
  | x :: l, k => if q x then k else indexM q l (k + 1)

theorem indexM_lo (q : Int → Bool) (l : List Int) : ∀ k : Int, 0 ≤ k → decide (0 ≤ indexM q l k) = l.any q := by
  induction l with
  | nil => intro k _; simp [indexM]
  | cons x l ih =>
    intro k hk
    by_cases h : q x = true
    · simp [indexM, h, hk]
    · simp only [indexM, h, List.any_cons]; simpa using ih (k + 1) (by omega)

def checkM (l : List Int) : Int := if l.any bad3 then 3 else 0

def notM (v : Int) : Int := if v = 0 then 1 else if v = 1 then 0 else 2
def ofM (kind : Int) (l : List Int) : Int :=
  if kind = 4 then gatherM 0 l 1 else if kind = 5 then gatherM 1 l 0 else notM (l.headD 0)

def toldM (kind : Int) (l : List Int) : Int × Int := if l.any bad3 then (0, 3) else (ofM kind l, 0)

def valuesM (l : List Int) : Bool := l.all fun v => decide (0 ≤ v) && decide (v ≤ 2)
def countM (v : Int) : List Int → Int → Int
  | [], n => n
  | x :: l, n => countM v l (if x = v then n + 1 else n)

theorem countM_le (v : Int) (l : List Int) : ∀ n : Int, n ≤ countM v l n ∧ countM v l n ≤ n + l.length := by
  induction l with
  | nil => intro n; simp [countM]
  | cons x l ih =>
    intro n
    by_cases hx : x = v
    · have := ih (n + 1)
      simp only [countM, List.length_cons, if_pos hx]; omega
    · have := ih n
      simp only [countM, List.length_cons, if_neg hx]; omega

def allM (l : List Int) : Int := if countM 0 l 0 > 0 then 0 else if countM 2 l 0 > 0 then 2 else 1
def anyM (l : List Int) : Int := if countM 1 l 0 > 0 then 1 else if countM 2 l 0 > 0 then 2 else 0
def rnotM (v : Int) : Int := if v = 2 then 2 else 1 - v
def leqM : List Int → List Int → Bool
  | x :: a, y :: b => (decide (x = 2) || decide (x = y)) && leqM a b
  | _, _ => true

def rleqOfM (xs ys : List Int) : Bool × Int :=
  if !valuesM xs || !valuesM ys then (false, 3) else if xs.length ≠ ys.length then (false, 1) else (leqM xs ys, 0)
def leqOfM (xs ys : List Int) : Bool × Int :=
  if xs.any bad3 then (false, 3) else if ys.any bad3 then (false, 3) else if xs.length ≠ ys.length then (false, 1) else (leqM xs ys, 0)

theorem checkM_bad {xs : List Int} (h : xs.any bad3 = true) : checkM xs = 3 := by simp [checkM, h]
theorem checkM_ok {xs : List Int} (h : xs.any bad3 = false) : checkM xs = 0 := by simp only [checkM, h]; rfl


/-! the plain laws -/
theorem gatherM_eq (r : Int) (hr : r ≠ 2) (l : List Int) : ∀ out, gatherM r l out = if r ∈ l then r else if (2 : Int) ∈ l then 2 else out := by
  induction l with
  | nil => intro out; simp [gatherM]
  | cons x l ih =>
    intro out
    by_cases h : x = r
    · subst h; simp [gatherM]
    · have h' : ¬ r = x := fun e => h e.symm
      by_cases h2 : x = 2
      · subst h2; simp only [gatherM, if_neg h, if_true, ih]; simp [h']
      · have h2' : ¬ 2 = x := fun e => h2 e.symm
        simp only [gatherM, if_neg h, if_neg h2, ih]; simp [h', h2']
theorem countM_pos (v : Int) (l : List Int) : ∀ n : Int, (0 < countM v l n ↔ 0 < n ∨ v ∈ l) ∨ n < 0 := by
  induction l with
  | nil => intro n; simp [countM]
  | cons x l ih =>
    intro n
    by_cases hn : n < 0
    · exact .inr hn
    · left
      by_cases h : x = v
      · subst h
        rcases ih (n + 1) with e | e
        · simp only [countM, if_true, e]; simp; omega
        · omega
      · have h' : ¬ v = x := fun e => h e.symm
        rcases ih n with e | e
        · simp only [countM, if_neg h, e]; simp [h']
        · omega
theorem countM_mem (v : Int) (l : List Int) : (0 < countM v l 0) = (v ∈ l) := by
  rcases countM_pos v l 0 with e | e
  · simpa using e
  · omega
theorem valuesM_eq (l : List Int) : valuesM l = !(l.any bad3) := by
  induction l with
  | nil => rfl
  | cons x l ih =>
    have hx : (decide (0 ≤ x) && decide (x ≤ 2)) = !bad3 x := by
      rw [Bool.eq_iff_iff]; simp [bad3]
    simp only [valuesM, List.all_cons, List.any_cons, Bool.not_or] at *
    rw [ih, hx]
theorem allM_eq (l : List Int) : allM l = ofM 4 l := by
  simp only [allM, ofM, if_true, gatherM_eq 0 (by decide), gt_iff_lt, countM_mem]
theorem anyM_eq (l : List Int) : anyM l = ofM 5 l := by
  have h : ¬ (5 : Int) = 4 := by decide
  simp only [anyM, ofM, if_neg h, if_true, gatherM_eq 1 (by decide), gt_iff_lt, countM_mem]
theorem rnotM_eq (x : Int) (h0 : 0 ≤ x) (h1 : x ≤ 2) : rnotM x = ofM 6 [x] := by
  have : x = 0 ∨ x = 1 ∨ x = 2 := by omega
  rcases this with rfl | rfl | rfl <;> decide
theorem leqOfM_eq (xs ys : List Int) : rleqOfM xs ys = leqOfM xs ys := by
  simp only [rleqOfM, leqOfM, valuesM_eq, Bool.not_not]
  cases xs.any bad3 <;> cases ys.any bad3 <;> simp
theorem told_all (l : List Int) : toldM 4 l = (if valuesM l then allM l else 0, if valuesM l then 0 else 3) := by
  rw [toldM, valuesM_eq, allM_eq]; cases l.any bad3 <;> simp
theorem told_any (l : List Int) : toldM 5 l = (if valuesM l then anyM l else 0, if valuesM l then 0 else 3) := by
  rw [toldM, valuesM_eq, anyM_eq]; cases l.any bad3 <;> simp
theorem told_not (x : Int) : toldM 6 [x] = (if valuesM [x] then rnotM x else 0, if valuesM [x] then 0 else 3) := by
  rw [toldM]
  by_cases h : valuesM [x] = true
  · have hb : [x].any bad3 = false := by rw [valuesM_eq] at h; simpa using h
    have hx : 0 ≤ x ∧ x ≤ 2 := by simpa [valuesM] using h
    rw [h, hb, rnotM_eq x hx.1 hx.2]; simp
  · have h : valuesM [x] = false := by simpa using h
    have hb : [x].any bad3 = true := by rw [valuesM_eq] at h; simpa using h
    rw [h, hb]; simp
theorem check_values (l : List Int) : (checkM l == 0) = valuesM l := by
  rw [valuesM_eq, checkM]; cases l.any bad3 <;> simp

theorem good3 {x : Int} (h : bad3 x = false) : x = 0 ∨ x = 1 ∨ x = 2 := by simp [bad3] at h; omega
theorem notM_good (x : Int) : bad3 (notM x) = false := by
  unfold notM; split
  · rfl
  · split <;> rfl
theorem ofM4_good (l : List Int) : bad3 (ofM 4 l) = false := by
  simp only [ofM, if_true, gatherM_eq 0 (by decide)]; repeat' split
  all_goals rfl
theorem all_turned (l : List Int) (h : l.any bad3 = false) : ofM 5 (l.map notM) = notM (ofM 4 l) := by
  have h5 : ¬ (5 : Int) = 4 := by decide
  simp only [ofM, if_true, if_neg h5, gatherM_eq 0 (by decide), gatherM_eq 1 (by decide)]
  have e1 : (1 ∈ l.map notM) = (0 ∈ l) := by
    rw [eq_iff_iff, List.mem_map]
    constructor
    · rintro ⟨x, hx, e⟩
      have : x = 0 := by
        unfold notM at e; split at e
        · assumption
        · split at e <;> omega
      rwa [this] at hx
    · exact fun hx => ⟨0, hx, rfl⟩
  have e2 : (2 ∈ l.map notM) = (2 ∈ l) := by
    rw [eq_iff_iff, List.mem_map]
    constructor
    · rintro ⟨x, hx, e⟩
      have hb : bad3 x = false := by
        have := List.any_eq_false.1 h x hx; simpa using this
      rcases good3 hb with rfl | rfl | rfl
      · simp [notM] at e
      · simp [notM] at e
      · exact hx
    · exact fun hx => ⟨2, hx, rfl⟩
  simp only [e1, e2]
  by_cases h0 : (0 : Int) ∈ l
  · simp [h0, notM]
  · by_cases h2 : (2 : Int) ∈ l
    · simp [h0, h2, notM]
    · simp [h0, h2, notM]
theorem leqM_mem (r : Int) : ∀ xs ys : List Int, xs.length = ys.length → leqM xs ys = true → r ≠ 2 → r ∈ xs → r ∈ ys
  | [], _, _, _, _, h => by simp at h
  | x :: xs, [], hl, _, _, _ => by simp at hl
  | x :: xs, y :: ys, hl, h, hr, hm => by
    simp only [leqM, Bool.and_eq_true, Bool.or_eq_true, decide_eq_true_eq] at h
    rcases List.mem_cons.1 hm with e | e
    · subst e
      rcases h.1 with h1 | h1
      · exact absurd h1 hr
      · subst h1; simp
    · exact List.mem_cons_of_mem _ (leqM_mem r xs ys (by simpa using hl) h.2 hr e)
theorem leqM_open : ∀ xs ys : List Int, xs.length = ys.length → leqM xs ys = true → (2 : Int) ∉ xs → xs = ys
  | [], [], _, _, _ => rfl
  | [], y :: ys, hl, _, _ => by simp at hl
  | x :: xs, [], hl, _, _ => by simp at hl
  | x :: xs, y :: ys, hl, h, hm => by
    simp only [leqM, Bool.and_eq_true, Bool.or_eq_true, decide_eq_true_eq] at h
    have hx : ¬ x = 2 := fun e => hm (by simp [e])
    rcases h.1 with h1 | h1
    · exact absurd h1 hx
    · rw [h1, leqM_open xs ys (by simpa using hl) h.2 (fun e => hm (List.mem_cons_of_mem _ e))]
theorem leq_of (k : Int) (hk : k = 4 ∨ k = 5) (xs ys : List Int) (hl : xs.length = ys.length) (h : leqM xs ys = true) : ofM k xs = 2 ∨ ofM k xs = ofM k ys := by
  have h5 : ¬ (5 : Int) = 4 := by decide
  by_cases hm : (2 : Int) ∈ xs
  · rcases hk with rfl | rfl
    · by_cases h0 : (0 : Int) ∈ xs
      · right; have := leqM_mem 0 xs ys hl h (by decide) h0; simp [ofM, gatherM_eq 0, h0, this]
      · left; simp [ofM, gatherM_eq 0, h0, hm]
    · by_cases h0 : (1 : Int) ∈ xs
      · right; have := leqM_mem 1 xs ys hl h (by decide) h0; simp [ofM, gatherM_eq 1, h0, this]
      · left; simp [ofM, gatherM_eq 1, h0, hm]
  · right; rw [leqM_open xs ys hl h hm]
end Go.Proofs.Ytjagbnaacfhokaa
/- What is settled, in plain Lean: rounds and the work list tell the same, the least that solves. No program in sight. -/
namespace Go.Proofs.Ytjagbnaacfhokaa
set_option linter.unusedVariables false
set_option linter.unusedSimpArgs false

def valI (v : List Int) (k : Int) : Int := v[k.toNat]?.getD 0
def worthM (regs ins v : List Int) (g : GateM) : Int :=
  if g.kind = 0 then 0 else if g.kind = 1 then 1 else if g.kind = 2 then valI ins g.num else if g.kind = 3 then valI regs g.num
  else ofM g.kind (g.args.map (valI v))
def nextV (gs : List GateM) (regs ins v : List Int) : List Int := gs.map (worthM regs ins v)
def itV (gs : List GateM) (regs ins : List Int) : Nat → List Int → List Int
  | 0, v => v
  | n + 1, v => itV gs regs ins n (nextV gs regs ins v)
def opensM (n : Nat) : List Int := List.replicate n 2
def settledM (gs : List GateM) (regs ins : List Int) : List Int := itV gs regs ins gs.length (opensM gs.length)
def goodL (l : List Int) : Prop := ∀ x ∈ l, x = 0 ∨ x = 1 ∨ x = 2
def leI (x y : Int) : Prop := x = 2 ∨ x = y

theorem goodL_of {l : List Int} (h : l.any bad3 = false) : goodL l := fun x hx => good3 (by have := List.any_eq_false.1 h x hx; simpa using this)
theorem goodL_any {l : List Int} (h : goodL l) : l.any bad3 = false := by
  rw [List.any_eq_false]; intro x hx
  rcases h x hx with rfl | rfl | rfl <;> decide
theorem leI.refl (x : Int) : leI x x := .inr rfl
theorem leI.trans {x y z : Int} (h : leI x y) (k : leI y z) : leI x z := by
  rcases h with h | rfl
  · exact .inl h
  · exact k
theorem leI.anti {x y : Int} (h : leI x y) (k : leI y x) : x = y := by
  rcases h with rfl | h
  · rcases k with h | h <;> omega
  · exact h

/-! leqM: as lists -/
theorem leqM_refl (a : List Int) : leqM a a = true := by
  induction a with
  | nil => rfl
  | cons x a ih => simp [leqM, ih]
theorem leqM_iff : ∀ {a b : List Int}, a.length = b.length → (leqM a b = true ↔ ∀ k : Nat, k < a.length → leI (a[k]?.getD 0) (b[k]?.getD 0))
  | [], [], _ => by simp [leqM]
  | [], y :: b, h => by simp at h
  | x :: a, [], h => by simp at h
  | x :: a, y :: b, h => by
    have ih := leqM_iff (a := a) (b := b) (by simpa using h)
    simp only [leqM, Bool.and_eq_true, Bool.or_eq_true, decide_eq_true_eq, ih]
    constructor
    · rintro ⟨h1, h2⟩ k hk
      cases k with
      | zero => simpa [leI] using h1
      | succ k => simpa using h2 k (by simpa using hk)
    · intro h2
      exact ⟨by simpa [leI] using h2 0 (by simp), fun k hk => by simpa using h2 (k + 1) (by simpa using hk)⟩
theorem leqM_val {a b : List Int} (hl : a.length = b.length) (h : leqM a b = true) (k : Int) : leI (valI a k) (valI b k) := by
  unfold valI
  rcases Nat.lt_or_ge k.toNat a.length with e | e
  · exact (leqM_iff hl).1 h _ e
  · rw [List.getElem?_eq_none e, List.getElem?_eq_none (by omega)]; exact leI.refl _
theorem leqM_of_val {a b : List Int} (hl : a.length = b.length) (h : ∀ k : Nat, k < a.length → leI (valI a k) (valI b k)) : leqM a b = true :=
  (leqM_iff hl).2 fun k hk => by have := h k hk; simpa [valI] using this
theorem leqM_trans {a b c : List Int} (h1 : a.length = b.length) (h2 : b.length = c.length) (h : leqM a b = true) (k : leqM b c = true) : leqM a c = true :=
  leqM_of_val (by omega) fun i _ => (leqM_val h1 h i).trans (leqM_val h2 k i)
theorem val_ext {a b : List Int} (hl : a.length = b.length) (h : ∀ k : Nat, k < a.length → valI a k = valI b k) : a = b := by
  apply List.ext_getElem hl
  intro i h1 h2
  have := h i h1
  simpa [valI, List.getElem?_eq_getElem h1, List.getElem?_eq_getElem h2] using this
theorem leqM_anti {a b : List Int} (hl : a.length = b.length) (h : leqM a b = true) (k : leqM b a = true) : a = b :=
  val_ext hl fun i _ => (leqM_val hl h i).anti (leqM_val hl.symm k i)
theorem leqM_opens (v : List Int) : leqM (opensM v.length) v = true := by
  refine leqM_of_val (by simp [opensM]) fun k hk => ?_
  left; simp only [opensM, List.length_replicate] at hk
  simp [valI, opensM, hk]

/-! gates -/
theorem leqM_map {v u : List Int} (hl : v.length = u.length) (h : leqM v u = true) (l : List Int) : leqM (l.map (valI v)) (l.map (valI u)) = true := by
  induction l with
  | nil => rfl
  | cons a l ih =>
    simp only [List.map_cons, leqM, ih, Bool.and_true, Bool.or_eq_true, decide_eq_true_eq]
    exact leqM_val hl h a
theorem worth_mono {regs regs' ins ins' v u : List Int} (hr : regs.length = regs'.length) (hi : ins.length = ins'.length) (hl : v.length = u.length)
    (h1 : leqM regs regs' = true) (h2 : leqM ins ins' = true) (h : leqM v u = true) (g : GateM) : leI (worthM regs ins v g) (worthM regs' ins' u g) := by
  unfold worthM
  split
  · exact leI.refl _
  split
  · exact leI.refl _
  split
  · exact leqM_val hi h2 _
  split
  · exact leqM_val hr h1 _
  have hm := leqM_map hl h g.args
  by_cases k4 : g.kind = 4
  · exact leq_of _ (.inl k4) _ _ (by simp) hm
  by_cases k5 : g.kind = 5
  · exact leq_of _ (.inr k5) _ _ (by simp) hm
  simp only [ofM, if_neg k4, if_neg k5]
  cases hg : g.args with
  | nil => exact leI.refl _
  | cons a l =>
    simp only [List.map_cons, List.headD_cons]
    rcases leqM_val hl h a with e | e
    · left; rw [e]; rfl
    · right; rw [e]
theorem next_len (gs : List GateM) (regs ins v : List Int) : (nextV gs regs ins v).length = gs.length := by simp [nextV]
theorem next_val {gs : List GateM} {regs ins v : List Int} {k : Nat} {g : GateM} (h : gs[k]? = some g) : valI (nextV gs regs ins v) k = worthM regs ins v g := by
  simp [valI, nextV, h]
theorem next_mono {gs : List GateM} {regs regs' ins ins' v u : List Int} (hr : regs.length = regs'.length) (hi : ins.length = ins'.length) (hl : v.length = u.length)
    (h1 : leqM regs regs' = true) (h2 : leqM ins ins' = true) (h : leqM v u = true) : leqM (nextV gs regs ins v) (nextV gs regs' ins' u) = true := by
  refine leqM_of_val (by simp [next_len]) fun k hk => ?_
  rw [next_len] at hk
  rw [next_val (List.getElem?_eq_getElem hk), next_val (List.getElem?_eq_getElem hk)]
  exact worth_mono hr hi hl h1 h2 h _
theorem valI_good {v : List Int} (h : goodL v) (k : Int) : valI v k = 0 ∨ valI v k = 1 ∨ valI v k = 2 := by
  unfold valI
  cases e : v[k.toNat]? with
  | none => left; rfl
  | some x => exact h x (List.mem_of_getElem? e)
theorem ofM_good {l : List Int} (hk : goodL l) (k : Int) : ofM k l = 0 ∨ ofM k l = 1 ∨ ofM k l = 2 := by
  unfold ofM
  split
  · rw [gatherM_eq 0 (by decide)]; repeat' split
    all_goals simp
  split
  · rw [gatherM_eq 1 (by decide)]; repeat' split
    all_goals simp
  · exact good3 (notM_good _)
theorem worth_good {regs ins v : List Int} (hr : goodL regs) (hi : goodL ins) (hv : goodL v) (g : GateM) : worthM regs ins v g = 0 ∨ worthM regs ins v g = 1 ∨ worthM regs ins v g = 2 := by
  unfold worthM
  split
  · simp
  split
  · simp
  split
  · exact valI_good hi _
  split
  · exact valI_good hr _
  refine ofM_good (fun x hx => ?_) _
  obtain ⟨a, _, rfl⟩ := List.mem_map.1 hx
  exact valI_good hv a
theorem next_good {gs : List GateM} {regs ins v : List Int} (hr : goodL regs) (hi : goodL ins) (hv : goodL v) : goodL (nextV gs regs ins v) := fun x hx => by
  obtain ⟨g, _, rfl⟩ := List.mem_map.1 hx
  exact worth_good hr hi hv g

/-! the least that solves -/
structure LeastV (gs : List GateM) (regs ins v : List Int) : Prop where
  len : v.length = gs.length
  fix : nextV gs regs ins v = v
  least : ∀ u : List Int, u.length = gs.length → nextV gs regs ins u = u → leqM v u = true
theorem LeastV.uniq {gs : List GateM} {regs ins v u : List Int} (h : LeastV gs regs ins v) (k : LeastV gs regs ins u) : v = u :=
  leqM_anti (by rw [h.len, k.len]) (h.least u k.len k.fix) (k.least v h.len h.fix)
def cntV (v : List Int) : Nat := v.countP (fun x => !decide (x = 2))
theorem cntV_le : ∀ {a b : List Int}, a.length = b.length → leqM a b = true → cntV a ≤ cntV b ∧ (cntV a = cntV b → a = b)
  | [], [], _, _ => ⟨Nat.le_refl _, fun _ => rfl⟩
  | [], y :: b, h, _ => by simp at h
  | x :: a, [], h, _ => by simp at h
  | x :: a, y :: b, h, k => by
    simp only [leqM, Bool.and_eq_true, Bool.or_eq_true, decide_eq_true_eq] at k
    obtain ⟨h1, h2⟩ := cntV_le (a := a) (b := b) (by simpa using h) k.2
    unfold cntV at *
    rcases k.1 with e | e
    · subst e
      by_cases hy : y = 2
      · subst hy; simp_all
      · simp [hy]; constructor <;> omega
    · subst e
      by_cases hx : x = 2
      · subst hx; simp_all
      · simp [hx]; exact ⟨h1, h2⟩
theorem cntV_max (v : List Int) : cntV v ≤ v.length := List.countP_le_length
/-- A state of the rounds: it grows, and says no more than whatever solves. -/
structure RoundV (gs : List GateM) (regs ins v : List Int) : Prop where
  len : v.length = gs.length
  up : leqM v (nextV gs regs ins v) = true
  below : ∀ u : List Int, u.length = gs.length → nextV gs regs ins u = u → leqM v u = true
theorem RoundV.start (gs : List GateM) (regs ins : List Int) : RoundV gs regs ins (opensM gs.length) :=
  ⟨by simp [opensM], by have := leqM_opens (nextV gs regs ins (opensM gs.length)); rwa [next_len] at this, fun u hu _ => by have := leqM_opens u; rwa [hu] at this⟩
theorem RoundV.next {gs : List GateM} {regs ins v : List Int} (h : RoundV gs regs ins v) : RoundV gs regs ins (nextV gs regs ins v) :=
  ⟨next_len _ _ _ _, next_mono rfl rfl (by rw [next_len, h.len]) (leqM_refl _) (leqM_refl _) h.up, fun u hu hf => by
    have := next_mono (gs := gs) (regs := regs) (ins := ins) rfl rfl (by rw [h.len, hu]) (leqM_refl _) (leqM_refl _) (h.below u hu hf)
    rwa [hf] at this⟩
theorem RoundV.more {gs : List GateM} {regs ins v : List Int} (h : RoundV gs regs ins v) (hn : nextV gs regs ins v ≠ v) : cntV v < cntV (nextV gs regs ins v) := by
  have h1 := cntV_le (by rw [next_len, h.len]) h.up
  rcases Nat.lt_or_ge (cntV v) (cntV (nextV gs regs ins v)) with e | e
  · exact e
  · exact absurd (h1.2 (by omega)).symm hn
theorem RoundV.done {gs : List GateM} {regs ins v : List Int} (h : RoundV gs regs ins v) (hf : nextV gs regs ins v = v) : LeastV gs regs ins v := ⟨h.len, hf, h.below⟩
theorem itV_fixed {gs : List GateM} {regs ins : List Int} (n : Nat) : ∀ {v : List Int}, nextV gs regs ins v = v → itV gs regs ins n v = v := by
  induction n with
  | zero => intro v _; rfl
  | succ n ih => intro v h; simp only [itV, h]; exact ih h
theorem itV_least {gs : List GateM} {regs ins : List Int} (n : Nat) : ∀ {v : List Int}, RoundV gs regs ins v → gs.length ≤ n + cntV v → LeastV gs regs ins (itV gs regs ins n v) := by
  induction n with
  | zero =>
    intro v h hn
    refine h.done ?_
    have h1 := cntV_le (by rw [next_len, h.len]) h.up
    have h2 := cntV_max (nextV gs regs ins v)
    rw [next_len] at h2
    exact (h1.2 (by omega)).symm
  | succ n ih =>
    intro v h hn
    by_cases e : nextV gs regs ins v = v
    · rw [itV_fixed _ e]; exact h.done e
    · exact ih h.next (by have := h.more e; omega)
theorem settled_least (gs : List GateM) (regs ins : List Int) : LeastV gs regs ins (settledM gs regs ins) := itV_least _ (RoundV.start gs regs ins) (by omega)
theorem settled_eq {gs : List GateM} {regs ins v : List Int} (h : RoundV gs regs ins v) (hf : nextV gs regs ins v = v) : v = settledM gs regs ins := (h.done hf).uniq (settled_least _ _ _)
theorem settled_len (gs : List GateM) (regs ins : List Int) : (settledM gs regs ins).length = gs.length := (settled_least gs regs ins).len
theorem itV_good {gs : List GateM} {regs ins : List Int} (hr : goodL regs) (hi : goodL ins) (n : Nat) : ∀ {v : List Int}, goodL v → goodL (itV gs regs ins n v) := by
  induction n with
  | zero => intro v h; exact h
  | succ n ih => intro v h; exact ih (next_good hr hi h)
theorem opens_good (n : Nat) : goodL (opensM n) := fun x hx => by rw [opensM, List.mem_replicate] at hx; exact .inr (.inr hx.2)
theorem settled_good {gs : List GateM} {regs ins : List Int} (hr : goodL regs) (hi : goodL ins) : goodL (settledM gs regs ins) := itV_good hr hi _ (opens_good _)
theorem itV_mono {gs : List GateM} {regs regs' ins ins' : List Int} (hr : regs.length = regs'.length) (hi : ins.length = ins'.length) (h1 : leqM regs regs' = true) (h2 : leqM ins ins' = true) (n : Nat) :
    ∀ {v u : List Int}, v.length = u.length → leqM v u = true → leqM (itV gs regs ins n v) (itV gs regs' ins' n u) = true := by
  induction n with
  | zero => intro v u _ h; exact h
  | succ n ih => intro v u hl h; exact ih (by simp [next_len]) (next_mono hr hi hl h1 h2 h)
theorem settled_mono {gs : List GateM} {regs regs' ins ins' : List Int} (hr : regs.length = regs'.length) (hi : ins.length = ins'.length) (h1 : leqM regs regs' = true) (h2 : leqM ins ins' = true) :
    leqM (settledM gs regs ins) (settledM gs regs' ins') = true := itV_mono hr hi h1 h2 _ rfl (leqM_refl _)

/-! the users of each gate -/
def addUses (u : List (List Int)) (k : Int) (args : List Int) : List (List Int) := args.foldl (fun u a => u.modify a.toNat (· ++ [k])) u
def usersFrom : List GateM → Nat → List (List Int) → List (List Int)
  | [], _, u => u
  | g :: l, k, u => usersFrom l (k + 1) (addUses u k g.args)
def usersM (gs : List GateM) : List (List Int) := usersFrom gs 0 (List.replicate gs.length [])
def useI (u : List (List Int)) (a : Int) : List Int := u[a.toNat]?.getD []
def totalU (u : List (List Int)) : Nat := (u.map List.length).sum
theorem addUses_len (k : Int) (args : List Int) : ∀ u, (addUses u k args).length = u.length := by
  induction args with
  | nil => intro u; rfl
  | cons a l ih => intro u; simp only [addUses, List.foldl_cons] at *; rw [ih]; simp
theorem usersFrom_len (l : List GateM) : ∀ k u, (usersFrom l k u).length = u.length := by
  induction l with
  | nil => intro k u; rfl
  | cons g l ih => intro k u; simp only [usersFrom]; rw [ih, addUses_len]
theorem useI_modify (u : List (List Int)) (a b k : Int) (ha : 0 ≤ a) (hb : 0 ≤ b) : useI (u.modify a.toNat (· ++ [k])) b = if a = b ∧ a < u.length then useI u b ++ [k] else useI u b := by
  unfold useI
  rw [List.getElem?_modify]
  by_cases e : a = b
  · subst e
    rcases Nat.lt_or_ge a.toNat u.length with h | h
    · rw [List.getElem?_eq_getElem h]; rw [if_pos ⟨rfl, by omega⟩]; simp
    · rw [List.getElem?_eq_none h]; rw [if_neg (by omega)]; simp
  · have : ¬ a.toNat = b.toNat := by omega
    simp [this, e]
theorem mem_addUses (k j b : Int) (hb : 0 ≤ b) (args : List Int) : ∀ u : List (List Int), (∀ a ∈ args, 0 ≤ a ∧ a < u.length) → (j ∈ useI (addUses u k args) b ↔ j ∈ useI u b ∨ (j = k ∧ b ∈ args)) := by
  induction args with
  | nil => intro u _; simp [addUses]
  | cons a l ih =>
    intro u h
    have ha := h a (by simp)
    have h2 := ih (u.modify a.toNat (· ++ [k])) (fun x hx => by simpa using h x (by simp [hx]))
    simp only [addUses, List.foldl_cons] at h2 ⊢
    rw [h2, useI_modify u a b k ha.1 hb]
    by_cases e : a = b
    · subst e; rw [if_pos ⟨rfl, ha.2⟩]; simp only [List.mem_append, List.mem_cons, List.not_mem_nil, or_false]
      constructor
      · rintro ((h | h) | h)
        · exact .inl h
        · exact .inr ⟨h, by simp⟩
        · exact .inr ⟨h.1, by simp⟩
      · rintro (h | h)
        · exact .inl (.inl h)
        · exact .inl (.inr h.1)
    · have e' : ¬ b = a := fun x => e x.symm
      rw [if_neg (fun x => e x.1)]; simp [e']
theorem mem_usersFrom {gs : List GateM} (j b : Int) (hb : 0 ≤ b) (ok : ∀ g ∈ gs, ∀ a ∈ g.args, 0 ≤ a ∧ a < gs.length) (l : List GateM) : ∀ (k : Nat) (u : List (List Int)), gs.drop k = l → u.length = gs.length →
    (j ∈ useI (usersFrom l k u) b ↔ j ∈ useI u b ∨ ∃ (i : Nat) (g : GateM), l[i]? = some g ∧ j = ((k + i : Nat) : Int) ∧ b ∈ g.args) := by
  induction l with
  | nil => intro k u _ _; simp [usersFrom]
  | cons g l ih =>
    intro k u hd hu
    have hk : gs[k]? = some g := by
      have : (gs.drop k)[0]? = some g := by rw [hd]; rfl
      simpa using this
    have hd' : gs.drop (k + 1) = l := by rw [← List.drop_drop, hd]; rfl
    simp only [usersFrom]
    rw [ih (k + 1) _ hd' (by rw [addUses_len, hu]), mem_addUses k j b hb g.args u (by rw [hu]; exact ok g (List.mem_of_getElem? hk))]
    constructor
    · rintro ((h | ⟨rfl, h⟩) | ⟨i, x, h1, h2, h3⟩)
      · exact .inl h
      · exact .inr ⟨0, g, rfl, by simp, h⟩
      · exact .inr ⟨i + 1, x, by simpa using h1, by rw [h2]; omega, h3⟩
    · rintro (h | ⟨i, x, h1, h2, h3⟩)
      · exact .inl (.inl h)
      · cases i with
        | zero => simp at h1; subst h1; exact .inl (.inr ⟨by simpa using h2, h3⟩)
        | succ i => exact .inr ⟨i, x, by simpa using h1, by rw [h2]; omega, h3⟩
theorem mem_users {gs : List GateM} (ok : ∀ g ∈ gs, ∀ a ∈ g.args, 0 ≤ a ∧ a < gs.length) {j b : Int} (hb : 0 ≤ b) :
    j ∈ useI (usersM gs) b ↔ ∃ (i : Nat) (g : GateM), gs[i]? = some g ∧ j = (i : Int) ∧ b ∈ g.args := by
  unfold usersM
  rw [mem_usersFrom j b hb ok gs 0 _ rfl (by simp)]
  have : j ∉ useI (List.replicate gs.length []) b := by unfold useI; rw [List.getElem?_replicate]; split <;> simp
  simp [this]
theorem total_modify (k : Int) : ∀ (u : List (List Int)) (i : Nat), totalU (u.modify i (· ++ [k])) ≤ totalU u + 1
  | [], i => by simp [totalU]
  | x :: u, 0 => by simp [totalU]; omega
  | x :: u, i + 1 => by have := total_modify k u i; simp [totalU] at *; omega
theorem total_add (k : Int) (args : List Int) : ∀ u, totalU (addUses u k args) ≤ totalU u + args.length := by
  induction args with
  | nil => intro u; simp [addUses]
  | cons a l ih =>
    intro u
    have h1 := ih (u.modify a.toNat (· ++ [k]))
    have h2 := total_modify k u a.toNat
    simp only [addUses, List.foldl_cons, List.length_cons] at *
    omega
theorem total_from (m : Nat) (l : List GateM) (h : ∀ g ∈ l, g.args.length ≤ m) : ∀ k u, totalU (usersFrom l k u) ≤ totalU u + l.length * m := by
  induction l with
  | nil => intro k u; simp [usersFrom]
  | cons g l ih =>
    intro k u
    have h1 := ih (fun x hx => h x (by simp [hx])) (k + 1) (addUses u k g.args)
    have h2 := total_add k g.args u
    have h3 := h g (by simp)
    have h4 : (l.length + 1) * m = l.length * m + m := Nat.succ_mul _ _
    simp only [usersFrom, List.length_cons, h4]; omega
theorem total_users (m : Nat) (gs : List GateM) (h : ∀ g ∈ gs, g.args.length ≤ m) : totalU (usersM gs) ≤ gs.length * m := by
  have h1 := total_from m gs h 0 (List.replicate gs.length [])
  have h2 : totalU (List.replicate gs.length []) = 0 := by simp [totalU]
  rw [h2] at h1; unfold usersM; omega

/-! the work list -/
structure SInv (gs : List GateM) (regs ins v : List Int) (work : List Int) : Prop where
  len : v.length = gs.length
  good : goodL v
  below : ∀ u : List Int, u.length = gs.length → nextV gs regs ins u = u → leqM v u = true
  asc : ∀ (k : Nat) (g : GateM), gs[k]? = some g → valI v k ≠ 2 → worthM regs ins v g = valI v k
  wait : ∀ (k : Nat) (g : GateM), gs[k]? = some g → valI v k = 2 → (k : Int) ∉ work → worthM regs ins v g = 2
  ws : ∀ k ∈ work, 0 ≤ k ∧ k < gs.length
theorem SInv.start (gs : List GateM) (regs ins : List Int) (work : List Int) (hw : ∀ k : Int, k ∈ work ↔ 0 ≤ k ∧ k < gs.length) : SInv gs regs ins (opensM gs.length) work := by
  refine ⟨by simp [opensM], opens_good _, fun u hu _ => by have := leqM_opens u; rwa [hu] at this, fun k g hk h => absurd ?_ h, fun k g hk _ hn => absurd ?_ hn, fun k hk => (hw k).1 hk⟩
  · have : k < gs.length := (List.getElem?_eq_some_iff.1 hk).1
    simp [valI, opensM, this]
  · have : k < gs.length := (List.getElem?_eq_some_iff.1 hk).1
    exact (hw k).2 (by omega)
theorem SInv.done {gs : List GateM} {regs ins v : List Int} (h : SInv gs regs ins v []) : v = settledM gs regs ins := by
  have hf : nextV gs regs ins v = v := by
    refine val_ext (by rw [next_len, h.len]) fun k hk => ?_
    rw [next_len] at hk
    rw [next_val (List.getElem?_eq_getElem hk)]
    by_cases e : valI v k = 2
    · rw [h.wait k _ (List.getElem?_eq_getElem hk) e (by simp), e]
    · exact h.asc k _ (List.getElem?_eq_getElem hk) e
  exact LeastV.uniq ⟨h.len, hf, h.below⟩ (settled_least _ _ _)
theorem SInv.skip {gs : List GateM} {regs ins v : List Int} {k : Int} {work : List Int} (h : SInv gs regs ins v (k :: work)) (hk : valI v k ≠ 2) : SInv gs regs ins v work :=
  ⟨h.len, h.good, h.below, h.asc, fun j g hj he hn => h.wait j g hj he (fun e => by
    rcases List.mem_cons.1 e with e | e
    · rw [e] at he; exact hk he
    · exact hn e), fun j hj => h.ws j (by simp [hj])⟩
theorem SInv.none {gs : List GateM} {regs ins v : List Int} {k : Int} {work : List Int} {g : GateM} (h : SInv gs regs ins v (k :: work)) (hg : gs[k.toNat]? = some g) (hx : worthM regs ins v g = 2) : SInv gs regs ins v work :=
  ⟨h.len, h.good, h.below, h.asc, fun j g' hj he hn => by
    have h0 := (h.ws k (by simp)).1
    by_cases e : (j : Int) = k
    · have : k.toNat = j := by omega
      rw [this, hj] at hg; injection hg with hg; rw [hg]; exact hx
    · exact h.wait j g' hj he (fun x => by
        rcases List.mem_cons.1 x with x | x
        · exact e x
        · exact hn x), fun j hj => h.ws j (by simp [hj])⟩
theorem valI_set (v : List Int) (k : Int) (x : Int) (j : Nat) (h0 : 0 ≤ k) (h1 : k < v.length) : valI (v.set k.toNat x) j = if (j : Int) = k then x else valI v j := by
  unfold valI
  simp only [Int.toNat_natCast]
  rw [List.getElem?_set]
  by_cases e : (j : Int) = k
  · rw [if_pos (by omega : k.toNat = j), if_pos (by omega), if_pos e]; rfl
  · rw [if_neg (by omega : ¬ k.toNat = j), if_neg e]
theorem worth_other {regs ins v u : List Int} {g : GateM} (h : ∀ a ∈ g.args, valI v a = valI u a) : worthM regs ins v g = worthM regs ins u g := by
  unfold worthM
  have : g.args.map (valI v) = g.args.map (valI u) := List.map_congr_left h
  rw [this]
theorem SInv.settle {gs : List GateM} {regs ins v : List Int} {k : Int} {work : List Int} {g : GateM} (h : SInv gs regs ins v (k :: work)) (hr : goodL regs) (hi : goodL ins) (ok : ∀ g ∈ gs, ∀ a ∈ g.args, 0 ≤ a ∧ a < gs.length)
    (hg : gs[k.toNat]? = some g) (hv : valI v k = 2) (hx : worthM regs ins v g ≠ 2) : SInv gs regs ins (v.set k.toNat (worthM regs ins v g)) (work ++ useI (usersM gs) k) := by
  obtain ⟨h0, h1⟩ := h.ws k (by simp)
  have hs := fun j : Nat => valI_set v k (worthM regs ins v g) j h0 (by rw [h.len]; exact h1)
  have hl : v.length = (v.set k.toNat (worthM regs ins v g)).length := by simp
  have hup : leqM v (v.set k.toNat (worthM regs ins v g)) = true := leqM_of_val hl fun j _ => by
    rw [hs j]; split
    · rename_i e; left; rw [e]; exact hv
    · exact leI.refl _
  have hsame : ∀ (g' : GateM), worthM regs ins v g' ≠ 2 → worthM regs ins (v.set k.toNat (worthM regs ins v g)) g' = worthM regs ins v g' := fun g' hn => by
    rcases worth_mono (regs := regs) (ins := ins) rfl rfl hl (leqM_refl _) (leqM_refl _) hup g' with e | e
    · exact absurd e hn
    · exact e.symm
  refine ⟨by simp [h.len], fun x hx => ?_, fun u hu hf => ?_, fun j g' hj hn => ?_, fun j g' hj he hn => ?_, fun j hj => ?_⟩
  · rcases List.mem_or_eq_of_mem_set hx with e | e
    · exact h.good x e
    · rw [e]; exact worth_good hr hi h.good g
  · have hb := h.below u hu hf
    refine leqM_of_val (by simp [h.len, hu]) fun j hj => ?_
    rw [hs j]; split
    · rename_i e
      rcases worth_mono (regs := regs) (ins := ins) rfl rfl (by rw [h.len, hu]) (leqM_refl _) (leqM_refl _) hb g with e2 | e2
      · exact absurd e2 hx
      · right; rw [e2]
        have hj2 : gs[j]? = some g := by rw [← hg]; congr 1; omega
        have := next_val (regs := regs) (ins := ins) (v := u) hj2
        rw [hf] at this; exact this.symm
    · exact leqM_val (by rw [h.len, hu]) hb j
  · rw [hs j] at hn ⊢
    split
    · rename_i e
      have hj2 : gs[k.toNat]? = some g' := by rw [← hj]; congr 1; omega
      rw [hg] at hj2; injection hj2 with hj2; subst hj2
      exact hsame g hx
    · rename_i e
      rw [if_neg e] at hn
      have ha := h.asc j g' hj hn
      rw [hsame g' (by rw [ha]; exact hn), ha]
  · rw [hs j] at he
    split at he
    · exact absurd he hx
    · rename_i e
      have hn' : (j : Int) ∉ work ∧ (j : Int) ∉ useI (usersM gs) k := by
        exact ⟨fun x => hn (by simp [x]), fun x => hn (by simp [x])⟩
      have hw := h.wait j g' hj he (fun x => by
        rcases List.mem_cons.1 x with x | x
        · exact e x
        · exact hn'.1 x)
      rw [← hw]
      symm
      refine worth_other fun a ha => ?_
      have hak : a ≠ k := fun x => hn'.2 ((mem_users ok h0).2 ⟨j, g', hj, rfl, by rw [← x]; exact ha⟩)
      have ha0 := (ok g' (List.mem_of_getElem? hj) a ha).1
      have := hs a.toNat
      rw [show ((a.toNat : Nat) : Int) = a from by omega] at this
      rw [this, if_neg hak]
  · rcases List.mem_append.1 hj with e | e
    · exact h.ws j (by simp [e])
    · obtain ⟨i, g', hi', rfl, _⟩ := (mem_users ok h0).1 e
      have := (List.getElem?_eq_some_iff.1 hi').1
      omega
/-- What the gates that are not yet settled may still bring. -/
def costV : List (List Int) → List Int → Nat
  | q :: u, x :: v => (if x = 2 then q.length else 0) + costV u v
  | _, _ => 0
theorem costV_set : ∀ (u : List (List Int)) (v : List Int) (k : Nat) (q : List Int) (x : Int), u[k]? = some q → v[k]? = some 2 → x ≠ 2 → costV u (v.set k x) + q.length = costV u v
  | [], _, k, q, _, h, _, _ => by simp at h
  | y :: u, [], k, q, _, _, h, _ => by simp at h
  | y :: u, b :: v, 0, q, x, h, h2, hx => by simp at h h2; subst h; subst h2; simp [costV, hx]; omega
  | y :: u, b :: v, k + 1, q, x, h, h2, hx => by
    have := costV_set u v k q x (by simpa using h) (by simpa using h2) hx
    simp [costV]; omega
theorem costV_le : ∀ (u : List (List Int)) (v : List Int), costV u v ≤ totalU u
  | [], _ => by simp [costV]
  | q :: u, [] => by simp [costV]
  | q :: u, x :: v => by
    have := costV_le u v
    simp only [costV, totalU, List.map_cons, List.sum_cons] at *
    split <;> omega

/-! the law EvalTrue -/
theorem solves_leq {gs : List GateM} {regs ins u : List Int} (hl : u.length = gs.length) (hf : nextV gs regs ins u = u) : leqM (settledM gs regs ins) u = true := (settled_least gs regs ins).least u hl hf
theorem solves_same {gs : List GateM} {regs ins u : List Int} (hl : u.length = gs.length) (hf : nextV gs regs ins u = u) (ho : (2 : Int) ∉ settledM gs regs ins) : settledM gs regs ins = u :=
  leqM_open _ _ (by rw [settled_len, hl]) (solves_leq hl hf) ho
end Go.Proofs.Ytjagbnaacfhokaa
/- Levels, in plain Lean: the order by counts of what lacks, and the order by flags, are the same; what is told along an order is what is settled. No program in sight. -/
namespace Go.Proofs.Ytjagbnaacfhokaa
set_option linter.unusedVariables false
set_option linter.unusedSimpArgs false

/-- All of args are done. -/
def argsDone (o : List Bool) (g : GateM) : Bool := g.args.all (onI o)
/-- The first gate from k on that is ready. -/
def readyFrom : List GateM → Nat → List Bool → Int
  | [], _, _ => -1
  | g :: l, k, o => if !onI o k && argsDone o g then (k : Int) else readyFrom l (k + 1) o
def readyM (gs : List GateM) (o : List Bool) : Int := readyFrom gs 0 o
def orderFrom (gs : List GateM) : Nat → List Bool → List Int → Option (List Int)
  | 0, _, out => some out
  | n + 1, o, out => if readyM gs o < 0 then none else orderFrom gs n (o.set (readyM gs o).toNat true) (out ++ [readyM gs o])
def orderM (gs : List GateM) : Option (List Int) := orderFrom gs gs.length (List.replicate gs.length false) []

/-! counts of what lacks -/
def lacksG (o : List Bool) (g : GateM) : Int := (g.args.countP (fun a => !onI o a) : Nat)
def lackFrom : List GateM → Nat → List Bool → List Int
  | [], _, _ => []
  | g :: l, k, o => (if onI o k then -1 else lacksG o g) :: lackFrom l (k + 1) o
def lackM (gs : List GateM) (o : List Bool) : List Int := lackFrom gs 0 o
def decAll (L : List Int) (l : List Int) : List Int := l.foldl (fun L k => L.modify k.toNat (· - 1)) L
def zeroAt : List Int → Int → Int
  | [], _ => -1
  | x :: l, k => if x = 0 then k else zeroAt l (k + 1)

theorem lackFrom_len (l : List GateM) : ∀ k o, (lackFrom l k o).length = l.length := by
  induction l with
  | nil => intro k o; rfl
  | cons g l ih => intro k o; simp [lackFrom, ih]
theorem lackFrom_at (l : List GateM) (o : List Bool) : ∀ (k j : Nat) (g : GateM), l[j]? = some g → (lackFrom l k o)[j]? = some (if onI o ((k + j : Nat) : Int) then -1 else lacksG o g) := by
  induction l with
  | nil => intro k j g h; simp at h
  | cons x l ih =>
    intro k j g h
    cases j with
    | zero => simp at h; subst h; simp [lackFrom]
    | succ j => simp only [lackFrom, List.getElem?_cons_succ]; rw [ih (k + 1) j g (by simpa using h), show k + 1 + j = k + (j + 1) from by omega]
theorem lackM_at {gs : List GateM} {o : List Bool} {j : Nat} {g : GateM} (h : gs[j]? = some g) : (lackM gs o)[j]? = some (if onI o j then -1 else lacksG o g) := by
  have := lackFrom_at gs o 0 j g h; simpa [lackM] using this
theorem lacks_zero (o : List Bool) (g : GateM) : (lacksG o g = 0) = (argsDone o g = true) := by
  unfold lacksG argsDone
  rw [eq_iff_iff]
  constructor
  · intro h
    have h0 : g.args.countP (fun a => !onI o a) = 0 := by omega
    rw [List.countP_eq_zero] at h0
    rw [List.all_eq_true]
    exact fun a ha => by have := h0 a ha; simpa using this
  · intro h
    rw [List.all_eq_true] at h
    have h0 : g.args.countP (fun a => !onI o a) = 0 := by
      rw [List.countP_eq_zero]; exact fun a ha => by simp [h a ha]
    omega
theorem zeroAt_lack (l : List GateM) (o : List Bool) : ∀ k : Nat, zeroAt (lackFrom l k o) k = readyFrom l k o := by
  induction l with
  | nil => intro k; rfl
  | cons g l ih =>
    intro k
    have h1 := ih (k + 1)
    simp only [lackFrom, zeroAt, readyFrom]
    rw [show ((k : Int) + 1) = ((k + 1 : Nat) : Int) from by omega, h1]
    cases e : onI o k with
    | true => simp
    | false =>
      simp only [Bool.false_eq_true, if_false, Bool.not_false, Bool.true_and]
      have := lacks_zero o g
      by_cases h : argsDone o g = true
      · rw [if_pos (by rw [this]; exact h), if_pos h]
      · rw [if_neg (by rw [this]; exact h), if_neg h]
theorem zeroAt_lackM (gs : List GateM) (o : List Bool) : zeroAt (lackM gs o) 0 = readyM gs o := zeroAt_lack gs o 0

theorem readyFrom_spec (gs : List GateM) (o : List Bool) (l : List GateM) : ∀ k : Nat, gs.drop k = l → readyFrom l k o = -1 ∨
    ∃ (j : Nat) (g : GateM), readyFrom l k o = (j : Int) ∧ k ≤ j ∧ gs[j]? = some g ∧ onI o j = false ∧ argsDone o g = true := by
  induction l with
  | nil => intro k _; exact .inl rfl
  | cons g l ih =>
    intro k hd
    have hk : gs[k]? = some g := by
      have : (gs.drop k)[0]? = some g := by rw [hd]; rfl
      simpa using this
    have hd' : gs.drop (k + 1) = l := by rw [← List.drop_drop, hd]; rfl
    simp only [readyFrom]
    by_cases h : (!onI o k && argsDone o g) = true
    · rw [if_pos h]
      simp only [Bool.and_eq_true, Bool.not_eq_true'] at h
      exact .inr ⟨k, g, rfl, Nat.le_refl _, hk, h.1, h.2⟩
    · rw [if_neg h]
      rcases ih (k + 1) hd' with e | ⟨j, x, h1, h2, h3⟩
      · exact .inl e
      · exact .inr ⟨j, x, h1, by omega, h3⟩
theorem readyM_spec (gs : List GateM) (o : List Bool) : readyM gs o = -1 ∨ ∃ (j : Nat) (g : GateM), readyM gs o = (j : Int) ∧ gs[j]? = some g ∧ onI o j = false ∧ argsDone o g = true := by
  rcases readyFrom_spec gs o gs 0 rfl with e | ⟨j, g, h1, _, h3⟩
  · exact .inl e
  · exact .inr ⟨j, g, h1, h3⟩
/-- If a gate is ready, the first that is ready is one. -/
theorem readyFrom_some (gs : List GateM) (o : List Bool) (l : List GateM) : ∀ (k j : Nat) (g : GateM), l[j]? = some g → onI o ((k + j : Nat) : Int) = false → argsDone o g = true → 0 ≤ readyFrom l k o := by
  induction l with
  | nil => intro k j g h; simp at h
  | cons x l ih =>
    intro k j g h h1 h2
    simp only [readyFrom]
    by_cases hx : (!onI o k && argsDone o x) = true
    · rw [if_pos hx]; omega
    · rw [if_neg hx]
      cases j with
      | zero => simp at h h1; subst h; simp [h1, h2] at hx
      | succ j => exact ih (k + 1) j g (by simpa using h) (by rw [show k + 1 + j = k + (j + 1) from by omega]; exact h1) h2

theorem count_addUses (k j b : Int) (hb : 0 ≤ b) (args : List Int) : ∀ u : List (List Int), (∀ a ∈ args, 0 ≤ a ∧ a < u.length) → (useI (addUses u k args) b).count j = (useI u b).count j + if j = k then args.count b else 0 := by
  induction args with
  | nil => intro u _; simp [addUses]
  | cons a l ih =>
    intro u h
    have ha := h a (by simp)
    have h2 := ih (u.modify a.toNat (· ++ [k])) (fun x hx => by simpa using h x (by simp [hx]))
    simp only [addUses, List.foldl_cons] at h2 ⊢
    rw [h2, useI_modify u a b k ha.1 hb]
    by_cases e : a = b
    · subst e; rw [if_pos ⟨rfl, ha.2⟩, List.count_append, List.count_cons, List.count_cons]
      by_cases hj : j = k
      · subst hj; simp; omega
      · have hj' : ¬ k = j := fun x => hj x.symm
        simp [hj, hj']
    · rw [if_neg (fun x => e x.1), List.count_cons]; simp [e]
theorem count_usersFrom {gs : List GateM} (j b : Int) (hb : 0 ≤ b) (ok : okArgs gs) (l : List GateM) : ∀ (k : Nat) (u : List (List Int)), gs.drop k = l → u.length = gs.length →
    (useI (usersFrom l k u) b).count j = (useI u b).count j + if (k : Int) ≤ j then ((l[(j - k).toNat]?.map (·.args)).getD []).count b else 0 := by
  induction l with
  | nil => intro k u _ _; simp [usersFrom]
  | cons g l ih =>
    intro k u hd hu
    have hk : gs[k]? = some g := by
      have : (gs.drop k)[0]? = some g := by rw [hd]; rfl
      simpa using this
    have hd' : gs.drop (k + 1) = l := by rw [← List.drop_drop, hd]; rfl
    simp only [usersFrom]
    rw [ih (k + 1) _ hd' (by rw [addUses_len, hu]), count_addUses k j b hb g.args u (by rw [hu]; exact ok g (List.mem_of_getElem? hk))]
    by_cases e : j = k
    · subst e; rw [if_pos rfl, if_neg (by omega), if_pos (by omega)]; simp
    · rw [if_neg e]
      by_cases h : (k : Int) ≤ j
      · rw [if_pos (by omega), if_pos h, show (j - k).toNat = (j - ((k + 1 : Nat) : Int)).toNat + 1 from by omega]; simp
      · rw [if_neg (by omega), if_neg h]
theorem count_users {gs : List GateM} (ok : okArgs gs) {b : Int} (hb : 0 ≤ b) (j : Nat) : (useI (usersM gs) b).count (j : Int) = (argsI gs j).count b := by
  unfold usersM
  rw [count_usersFrom j b hb ok gs 0 _ rfl (by simp), if_pos (by omega)]
  have : useI (List.replicate gs.length ([] : List Int)) b = [] := by unfold useI; rw [List.getElem?_replicate]; split <;> rfl
  simp [this, argsI]

theorem decAll_len (l : List Int) : ∀ L, (decAll L l).length = L.length := by
  induction l with
  | nil => intro L; rfl
  | cons a l ih => intro L; simp only [decAll, List.foldl_cons] at *; rw [ih]; simp
theorem decAll_at (l : List Int) (h0 : ∀ a ∈ l, 0 ≤ a) : ∀ (L : List Int) (j : Nat) (x : Int), L[j]? = some x → (decAll L l)[j]? = some (x - (l.count (j : Int) : Nat)) := by
  induction l with
  | nil => intro L j x h; simp [decAll, h]
  | cons a l ih =>
    intro L j x h
    have ha := h0 a (by simp)
    have ih' := ih (fun y hy => h0 y (by simp [hy]))
    simp only [decAll, List.foldl_cons] at *
    by_cases e : a = j
    · subst e
      rw [ih' (L.modify (j : Int).toNat (· - 1)) j (x - 1) (by simp [h])]
      simp; omega
    · have : ¬ a.toNat = j := by omega
      rw [ih' (L.modify a.toNat (· - 1)) j x (by simp [h, this])]
      rw [List.count_cons]; simp [e]
theorem countP_set {o : List Bool} {k : Int} (h0 : 0 ≤ k) (h1 : k < o.length) (hk : onI o k = false) (l : List Int) (hl : ∀ a ∈ l, 0 ≤ a) :
    l.countP (fun a => !onI o a) = l.countP (fun a => !onI (o.set k.toNat true) a) + l.count k := by
  induction l with
  | nil => rfl
  | cons a l ih =>
    have ih := ih (fun x hx => hl x (by simp [hx]))
    have hs := onI_set o k a h0 h1 (hl a (by simp))
    rw [List.countP_cons, List.countP_cons, List.count_cons, hs, ih]
    by_cases e : a = k
    · subst e; simp [hk]; omega
    · simp [e]; omega
/-- One more is done: the counts that the loop leaves. -/
theorem lack_step {gs : List GateM} {o : List Bool} {k : Nat} {g : GateM} (ok : okArgs gs) (ho : o.length = gs.length) (hg : gs[k]? = some g) (hk : onI o k = false) (hd : argsDone o g = true)
    (hc : ∀ (j : Nat) (x : GateM), gs[j]? = some x → onI o j = true → argsDone o x = true) :
    decAll ((lackM gs o).set k (-1)) (useI (usersM gs) k) = lackM gs (o.set k true) := by
  have hkl : k < gs.length := (List.getElem?_eq_some_iff.1 hg).1
  have hu : ∀ a ∈ useI (usersM gs) (k : Int), 0 ≤ a := fun a ha => by
    obtain ⟨i, _, _, rfl, _⟩ := (mem_users ok (by omega)).1 ha; omega
  refine List.ext_getElem? fun j => ?_
  rcases Nat.lt_or_ge j gs.length with hj | hj
  · have hgj := List.getElem?_eq_getElem hj
    generalize gs[j] = x at hgj
    have hlj := lackM_at (o := o) hgj
    have hon := onI_set o k j (by omega) (by omega) (by omega)
    rw [Int.toNat_natCast] at hon
    rw [lackM_at hgj, hon]
    have hcnt : (useI (usersM gs) k).count (j : Int) = x.args.count (k : Int) := by rw [count_users ok (by omega)]; simp [argsI, hgj]
    by_cases e : j = k
    · subst e
      rw [hg] at hgj; injection hgj with hgj; subst hgj
      rw [decAll_at _ hu _ j (-1) (by rw [List.getElem?_set]; simp [lackM, lackFrom_len, hkl]), hcnt]
      have : g.args.count (j : Int) = 0 := by
        rw [List.count_eq_zero]; intro hm
        unfold argsDone at hd; rw [List.all_eq_true] at hd
        rw [hd _ hm] at hk; cases hk
      rw [this]; simp
    · have e' : ¬ (j : Int) = (k : Int) := by omega
      rw [decAll_at _ hu _ j _ (by rw [List.getElem?_set, if_neg (fun x => e x.symm), hlj]), hcnt]
      simp only [e', decide_false, Bool.or_false]
      cases hoj : onI o j with
      | true =>
        have := hc j x hgj hoj
        have h0 : x.args.count (k : Int) = 0 := by
          rw [List.count_eq_zero]; intro hm
          unfold argsDone at this; rw [List.all_eq_true] at this
          rw [this _ hm] at hk; cases hk
        simp [h0]
      | false =>
        simp only [Bool.false_eq_true, if_false]
        have := countP_set (o := o) (k := (k : Int)) (by omega) (by omega) hk x.args (fun a ha => (ok x (List.mem_of_getElem? hgj) a ha).1)
        rw [Int.toNat_natCast] at this
        unfold lacksG; congr 1; omega
  · rw [List.getElem?_eq_none (by rw [decAll_len]; simp [lackM, lackFrom_len]; omega), List.getElem?_eq_none (by simp [lackM, lackFrom_len]; omega)]

/-! along an order -/
/-- What is done is done with its args. -/
def ClosedD (gs : List GateM) (o : List Bool) : Prop := ∀ (j : Nat) (x : GateM), gs[j]? = some x → onI o j = true → argsDone o x = true
/-- An order of what is left. -/
def OrdM (gs : List GateM) : List Bool → List Int → Prop
  | _, [] => True
  | o, k :: l => 0 ≤ k ∧ (∃ g, gs[k.toNat]? = some g ∧ onI o k = false ∧ argsDone o g = true) ∧ OrdM gs (o.set k.toNat true) l
theorem argsDone_set {o : List Bool} {k : Nat} {x : GateM} (h : argsDone o x = true) : argsDone (o.set k true) x = true := by
  unfold argsDone at *; rw [List.all_eq_true] at *
  exact fun a ha => subB_at _ (subB_set o k) (h a ha)
theorem closed_step {gs : List GateM} {o : List Bool} {k : Nat} {g : GateM} (hc : ClosedD gs o) (ho : o.length = gs.length) (hg : gs[k]? = some g) (hd : argsDone o g = true) : ClosedD gs (o.set k true) := by
  intro j x hj hon
  by_cases e : j = k
  · subst e; rw [hg] at hj; injection hj with hj; subst hj; exact argsDone_set hd
  · refine argsDone_set (hc j x hj ?_)
    have := onI_set o k j (by omega) (by have := (List.getElem?_eq_some_iff.1 hg).1; omega) (by omega)
    rw [Int.toNat_natCast] at this
    rw [this] at hon
    have e' : ¬ (j : Int) = (k : Int) := by omega
    simpa [e'] using hon
theorem closed_none (gs : List GateM) (n : Nat) : ClosedD gs (List.replicate n false) := fun j x _ h => by rw [onI_none] at h; cases h
theorem orderFrom_ord (gs : List GateM) (n : Nat) : ∀ (o : List Bool) (out l : List Int), orderFrom gs n o out = some l → ∃ r, l = out ++ r ∧ r.length = n ∧ OrdM gs o r := by
  induction n with
  | zero => intro o out l h; simp [orderFrom] at h; exact ⟨[], by simp [h], rfl, trivial⟩
  | succ n ih =>
    intro o out l h
    simp only [orderFrom] at h
    split at h
    · cases h
    · rename_i hr
      obtain ⟨r, h1, h2, h3⟩ := ih _ _ _ h
      rcases readyM_spec gs o with e | ⟨j, g, e1, e2, e3, e4⟩
      · omega
      · refine ⟨readyM gs o :: r, by simp [h1], by simp [h2], by omega, ⟨g, ?_, ?_, e4⟩, h3⟩
        · rw [e1]; simpa using e2
        · rw [e1]; exact e3
theorem orderM_ord {gs : List GateM} {l : List Int} (h : orderM gs = some l) : l.length = gs.length ∧ OrdM gs (List.replicate gs.length false) l := by
  obtain ⟨r, h1, h2, h3⟩ := orderFrom_ord _ _ _ _ _ h
  simp at h1; subst h1; exact ⟨h2, h3⟩
theorem cnt_set {o : List Bool} : ∀ {k : Nat}, o[k]? = some false → cnt (o.set k true) = cnt o + 1 := by
  induction o with
  | nil => intro k h; simp at h
  | cons x o ih =>
    intro k h
    cases k with
    | zero => simp at h; subst h; simp [cnt]
    | succ k => have := ih (k := k) (by simpa using h); simp only [cnt, List.set_cons_succ, List.countP_cons] at *; omega
theorem off_some {o : List Bool} {k : Int} (h : onI o k = false) (hl : k.toNat < o.length) : o[k.toNat]? = some false := by
  unfold onI at h; rw [List.getElem?_eq_getElem hl] at h ⊢; simpa using h
/-- Where an order ends, all are done. -/
theorem OrdM.all {gs : List GateM} : ∀ {l : List Int} {o : List Bool}, OrdM gs o l → o.length = gs.length → ∃ o' : List Bool, o' = l.foldl (fun o k => o.set k.toNat true) o ∧ o'.length = gs.length ∧ cnt o' = cnt o + l.length
  | [], o, _, ho => ⟨o, rfl, ho, rfl⟩
  | k :: l, o, h, ho => by
    obtain ⟨h0, ⟨g, hg, hon, _⟩, h3⟩ := h
    have hk : k.toNat < o.length := by have := (List.getElem?_eq_some_iff.1 hg).1; omega
    obtain ⟨o', h1, h2, h4⟩ := OrdM.all h3 (by simp [ho])
    exact ⟨o', by simpa using h1, h2, by rw [h4, cnt_set (off_some hon hk)]; simp; omega⟩
theorem all_on {o : List Bool} (h : cnt o = o.length) (k : Nat) (hk : k < o.length) : onI o k = true := by
  have := List.countP_eq_length.1 h o[k] (List.getElem_mem hk)
  simpa [onI, List.getElem?_eq_getElem hk] using this

/-! what is told along an order -/
def alongM (gs : List GateM) (regs ins : List Int) : List Int → List Int → List Int
  | [], v => v
  | k :: l, v => alongM gs regs ins l (v.set k.toNat (worthM regs ins v ((gs[k.toNat]?).getD ⟨0, 0, []⟩)))
theorem along_len (gs : List GateM) (regs ins : List Int) : ∀ (l v : List Int), (alongM gs regs ins l v).length = v.length
  | [], v => rfl
  | k :: l, v => by simp only [alongM]; rw [along_len gs regs ins l]; simp
theorem along_solves {gs : List GateM} {regs ins : List Int} (ok : okArgs gs) : ∀ (l : List Int) (o : List Bool) (v : List Int), OrdM gs o l → o.length = gs.length → v.length = gs.length → ClosedD gs o →
    (∀ (j : Nat) (x : GateM), gs[j]? = some x → onI o j = true → worthM regs ins v x = valI v j) →
    ∀ (j : Nat) (x : GateM), gs[j]? = some x → onI (l.foldl (fun o k => o.set k.toNat true) o) j = true → worthM regs ins (alongM gs regs ins l v) x = valI (alongM gs regs ins l v) j
  | [], _, _, _, _, _, _, h => h
  | k :: l, o, v, hO, ho, hv, hc, h => by
    obtain ⟨h0, ⟨g, hg, hon, hd⟩, h3⟩ := hO
    have hkl := (List.getElem?_eq_some_iff.1 hg).1
    have hk1 : k < gs.length := by omega
    refine along_solves ok l _ _ h3 (by simp [ho]) (by simp [hv]) (closed_step hc ho hg hd) (fun j x hj hoj => ?_)
    rw [hg, Option.getD_some]
    have hs := fun i : Nat => valI_set v k (worthM regs ins v g) i h0 (by omega)
    have hon' := onI_set o k j h0 (by omega) (by omega)
    rw [hon'] at hoj
    have hsame : ∀ y : GateM, y ∈ gs → argsDone o y = true → worthM regs ins (v.set k.toNat (worthM regs ins v g)) y = worthM regs ins v y := fun y hy hdy => by
      refine worth_other fun a ha => ?_
      have ha0 := (ok y hy a ha).1
      have := hs a.toNat
      rw [show ((a.toNat : Nat) : Int) = a from by omega] at this
      rw [this, if_neg]
      intro e
      unfold argsDone at hdy; rw [List.all_eq_true] at hdy
      have := hdy a ha; rw [e, hon] at this; cases this
    rw [hs j]
    by_cases e : (j : Int) = k
    · have : j = k.toNat := by omega
      subst this
      rw [hg] at hj; injection hj with hj; subst hj
      rw [if_pos e, hsame g (List.mem_of_getElem? hg) hd]
    · rw [if_neg e]
      have hoj' : onI o j = true := by simpa [e] using hoj
      rw [hsame x (List.mem_of_getElem? hj) (hc j x hj hoj'), h j x hj hoj']
/-- What is told along an order solves. -/
theorem along_fix {gs : List GateM} {regs ins l v : List Int} (ok : okArgs gs) (h : orderM gs = some l) (hv : v.length = gs.length) : nextV gs regs ins (alongM gs regs ins l v) = alongM gs regs ins l v := by
  obtain ⟨hl, hO⟩ := orderM_ord h
  obtain ⟨o', h1, h2, h3⟩ := OrdM.all hO (by simp)
  have hz : cnt (List.replicate gs.length false) = 0 := by simp [cnt]
  refine val_ext (by rw [next_len, along_len, hv]) fun j hj => ?_
  rw [next_len] at hj
  rw [next_val (List.getElem?_eq_getElem hj)]
  refine along_solves ok l _ v hO (by simp) hv (closed_none _ _) (fun j x _ h => by rw [onI_none] at h; cases h) j _ (List.getElem?_eq_getElem hj) ?_
  rw [← h1]
  exact all_on (by omega) j (by omega)
/-- Where there is an order, nothing else solves. -/
theorem order_agree {gs : List GateM} {regs ins u v : List Int} (ok : okArgs gs) (hu : u.length = gs.length) (hv : v.length = gs.length) (fu : nextV gs regs ins u = u) (fv : nextV gs regs ins v = v) : ∀ (l : List Int) (o : List Bool), OrdM gs o l → o.length = gs.length →
    (∀ j : Nat, j < gs.length → onI o j = true → valI u j = valI v j) → ∀ j : Nat, j < gs.length → onI (l.foldl (fun o k => o.set k.toNat true) o) j = true → valI u j = valI v j
  | [], _, _, _, h => h
  | k :: l, o, hO, ho, h => by
    obtain ⟨h0, ⟨g, hg, hon, hd⟩, h3⟩ := hO
    have hkl := (List.getElem?_eq_some_iff.1 hg).1
    refine order_agree ok hu hv fu fv l _ h3 (by simp [ho]) (fun j hj hoj => ?_)
    have hon' := onI_set o k j h0 (by omega) (by omega)
    rw [hon'] at hoj
    by_cases e : (j : Int) = k
    · have : j = k.toNat := by omega
      subst this
      have e1 := next_val (regs := regs) (ins := ins) (v := u) hg
      have e2 := next_val (regs := regs) (ins := ins) (v := v) hg
      rw [fu] at e1; rw [fv] at e2
      rw [e1, e2]
      refine worth_other fun a ha => ?_
      have ha0 := ok g (List.mem_of_getElem? hg) a ha
      unfold argsDone at hd; rw [List.all_eq_true] at hd
      have h4 := h a.toNat (by omega)
      rw [show ((a.toNat : Nat) : Int) = a from by omega] at h4
      exact h4 (hd a ha)
    · exact h j hj (by simpa [e] using hoj)
theorem order_one {gs : List GateM} {regs ins u v l : List Int} (ok : okArgs gs) (h : orderM gs = some l) (hu : u.length = gs.length) (hv : v.length = gs.length) (fu : nextV gs regs ins u = u) (fv : nextV gs regs ins v = v) : u = v := by
  obtain ⟨hl, hO⟩ := orderM_ord h
  obtain ⟨o', h1, h2, h3⟩ := OrdM.all hO (by simp)
  have hz : cnt (List.replicate gs.length false) = 0 := by simp [cnt]
  refine val_ext (by rw [hu, hv]) fun j hj => ?_
  refine order_agree ok hu hv fu fv l _ hO (by simp) (fun j _ h => by rw [onI_none] at h; cases h) j (by omega) ?_
  rw [← h1]
  exact all_on (by omega) j (by omega)
theorem along_settled {gs : List GateM} {regs ins l v : List Int} (ok : okArgs gs) (h : orderM gs = some l) (hv : v.length = gs.length) : alongM gs regs ins l v = settledM gs regs ins :=
  order_one ok h (by rw [along_len, hv]) (settled_len _ _ _) (along_fix ok h hv) (settled_least _ _ _).fix
theorem notM_shut {x : Int} (h : x = 0 ∨ x = 1) : notM x ≠ 2 := by rcases h with rfl | rfl <;> decide
theorem val_shut {l : List Int} (h : (2 : Int) ∉ l) (k : Int) : valI l k ≠ 2 := by
  unfold valI
  cases e : l[k.toNat]? with
  | none => simp
  | some x => intro e2; simp at e2; subst e2; exact h (List.mem_of_getElem? e)
theorem worth_shut {regs ins v : List Int} {g : GateM} (hr : (2 : Int) ∉ regs) (hi : (2 : Int) ∉ ins) (hv : ∀ a ∈ g.args, valI v a = 0 ∨ valI v a = 1) : worthM regs ins v g ≠ 2 := by
  unfold worthM
  split
  · decide
  split
  · decide
  split
  · exact val_shut hi _
  split
  · exact val_shut hr _
  have hm : (2 : Int) ∉ g.args.map (valI v) := fun hm => by
    obtain ⟨a, ha, e⟩ := List.mem_map.1 hm
    rcases hv a ha with h | h <;> omega
  unfold ofM
  split
  · rw [gatherM_eq 0 (by decide), if_neg hm]; split <;> decide
  split
  · rw [gatherM_eq 1 (by decide), if_neg hm]; split <;> decide
  · cases hg : g.args with
    | nil => exact notM_shut (.inl rfl)
    | cons a l => exact notM_shut (hv a (by rw [hg]; simp))
theorem order_shut_on {gs : List GateM} {regs ins v : List Int} (ok : okArgs gs) (gr : goodL regs) (gi : goodL ins) (gv : goodL v) (hr : (2 : Int) ∉ regs) (hi : (2 : Int) ∉ ins) (fv : nextV gs regs ins v = v) : ∀ (l : List Int) (o : List Bool), OrdM gs o l → o.length = gs.length →
    (∀ j : Nat, j < gs.length → onI o j = true → valI v j ≠ 2) → ∀ j : Nat, j < gs.length → onI (l.foldl (fun o k => o.set k.toNat true) o) j = true → valI v j ≠ 2
  | [], _, _, _, h => h
  | k :: l, o, hO, ho, h => by
    obtain ⟨h0, ⟨g, hg, hon, hd⟩, h3⟩ := hO
    have hkl := (List.getElem?_eq_some_iff.1 hg).1
    refine order_shut_on ok gr gi gv hr hi fv l _ h3 (by simp [ho]) (fun j hj hoj => ?_)
    rw [onI_set o k j h0 (by omega) (by omega)] at hoj
    by_cases e : (j : Int) = k
    · have : j = k.toNat := by omega
      subst this
      have e1 := next_val (regs := regs) (ins := ins) (v := v) hg
      rw [fv] at e1
      rw [e1]
      refine worth_shut hr hi fun a ha => ?_
      have ha0 := ok g (List.mem_of_getElem? hg) a ha
      unfold argsDone at hd; rw [List.all_eq_true] at hd
      have h4 := h a.toNat (by omega)
      rw [show ((a.toNat : Nat) : Int) = a from by omega] at h4
      have h5 := h4 (hd a ha)
      rcases valI_good gv a with h6 | h6 | h6
      · exact .inl h6
      · exact .inr h6
      · exact absurd h6 h5
    · exact h j hj (by simpa [e] using hoj)
/-- Where there is an order, nothing is open if nothing that is handed in is. -/
theorem order_shut {gs : List GateM} {regs ins l : List Int} (ok : okArgs gs) (h : orderM gs = some l) (gr : goodL regs) (gi : goodL ins) (hr : (2 : Int) ∉ regs) (hi : (2 : Int) ∉ ins) : (2 : Int) ∉ settledM gs regs ins := by
  obtain ⟨hl, hO⟩ := orderM_ord h
  obtain ⟨o', h1, h2, h3⟩ := OrdM.all hO (by simp)
  have hz : cnt (List.replicate gs.length false) = 0 := by simp [cnt]
  intro hm
  obtain ⟨j, hj⟩ := List.mem_iff_getElem?.1 hm
  have hjl := (List.getElem?_eq_some_iff.1 hj).1
  rw [settled_len] at hjl
  refine order_shut_on ok gr gi (settled_good gr gi) hr hi (settled_least _ _ _).fix l _ hO (by simp) (fun j _ h => by rw [onI_none] at h; cases h) j hjl ?_ (by simp [valI, hj])
  rw [← h1]
  exact all_on (by omega) j (by omega)
/-- Where each gate's args stand ahead of it, there is an order. -/
theorem order_of_ahead {gs : List GateM} (h : ∀ (k : Nat) (g : GateM), gs[k]? = some g → ∀ a ∈ g.args, 0 ≤ a ∧ a < k) : ∀ (n : Nat) (o : List Bool) (out : List Int), o.length = gs.length → cnt o + n = gs.length → ∃ l, orderFrom gs n o out = some l
  | 0, o, out, _, _ => ⟨out, rfl⟩
  | n + 1, o, out, ho, hc => by
    have hex : ∃ j : Nat, j < gs.length ∧ onI o j = false ∧ ∀ i : Nat, i < j → onI o i = true := by
      have : ∀ m : Nat, m ≤ gs.length → (∀ i : Nat, i < m → onI o i = true) ∨ ∃ j : Nat, j < gs.length ∧ onI o j = false ∧ ∀ i : Nat, i < j → onI o i = true := by
        intro m
        induction m with
        | zero => exact fun _ => .inl fun i hi => by omega
        | succ m ih =>
          intro hm
          rcases ih (by omega) with e | e
          · cases hb : onI o m with
            | false => exact .inr ⟨m, by omega, hb, e⟩
            | true =>
              refine .inl fun i hi => ?_
              rcases Nat.lt_or_ge i m with h1 | h1
              · exact e i h1
              · have : i = m := by omega
                subst this; exact hb
          · exact .inr e
      rcases this gs.length (Nat.le_refl _) with e | e
      · have : cnt o = o.length := List.countP_eq_length.2 fun b hb => by
          obtain ⟨i, hi⟩ := List.mem_iff_getElem?.1 hb
          have hil := (List.getElem?_eq_some_iff.1 hi).1
          have := e i (by omega)
          simpa [onI, hi] using this
        omega
      · exact e
    obtain ⟨j, hj, hoff, hlow⟩ := hex
    have hg := List.getElem?_eq_getElem hj
    have hr : 0 ≤ readyM gs o := readyFrom_some gs o gs 0 j _ hg (by simpa using hoff) (by
      unfold argsDone; rw [List.all_eq_true]; intro a ha
      have := h j _ hg a ha
      have h2 := hlow a.toNat (by omega)
      rwa [show ((a.toNat : Nat) : Int) = a from by omega] at h2)
    simp only [orderFrom]
    rw [if_neg (by omega)]
    refine order_of_ahead h n _ _ (by simp [ho]) ?_
    rcases readyM_spec gs o with e | ⟨i, g, e1, e2, e3, e4⟩
    · omega
    · have hil := (List.getElem?_eq_some_iff.1 e2).1
      rw [e1, Int.toNat_natCast, cnt_set (by have := off_some e3 (by simpa [ho] using hil); simpa using this)]
      omega
end Go.Proofs.Ytjagbnaacfhokaa
/- Instants of nets, in plain Lean. No Go in sight. -/
namespace Go.Proofs.Ytjagbnaacfhokaa
set_option linter.unusedVariables false
set_option linter.unusedSimpArgs false

def pickM (v l : List Int) : List Int := l.map (valI v)
def turnN (N : NetM) (regs ins : List Int) : Option (List Int × List Int) :=
  if (settledM N.gates regs ins).contains 2 then none else some (pickM (settledM N.gates regs ins) N.outs, pickM (settledM N.gates regs ins) (nextsM N))
def bitsM (x : Int) : Nat → List Int
  | 0 => []
  | n + 1 => x % 2 :: bitsM (x / 2) n
def runFrom (N : NetM) : List Int → List Int → Option (List (List Int) × List Int)
  | r, [] => some ([], r)
  | r, x :: l => (turnN N r (bitsM x N.ins.toNat)).bind fun o => (runFrom N o.2 l).map fun q => (o.1 :: q.1, q.2)
def badTime (ins : Nat) (x : Int) : Bool := decide (x < 0) || decide (2 ^ ins ≤ x)
def timesM (l : List Int) (ins : Nat) : Int := if 60 < l.length then 2 else if l.any (badTime ins) then 3 else 0
def runE (N : NetM) (l : List Int) : Int :=
  if checkN N ≠ 0 then checkN N else if timesM l N.ins.toNat ≠ 0 then timesM l N.ins.toNat else if (runFrom N (firstM N) l).isNone then 6 else 0
def runV (N : NetM) (l : List Int) : List (List Int) × List Int := if runE N l = 0 then (runFrom N (firstM N) l).getD ([], []) else ([], [])
theorem runE_ok {N : NetM} {l : List Int} (h : runE N l = 0) : checkN N = 0 ∧ timesM l N.ins.toNat = 0 ∧ ∃ q, runFrom N (firstM N) l = some q := by
  unfold runE at h
  by_cases h1 : checkN N = 0
  · rw [if_neg (by simp [h1])] at h
    by_cases h2 : timesM l N.ins.toNat = 0
    · rw [if_neg (by simp [h2])] at h
      cases h3 : runFrom N (firstM N) l with
      | none => rw [h3] at h; simp at h
      | some q => exact ⟨h1, h2, q, rfl⟩
    · rw [if_pos h2] at h; exact absurd h h2
  · rw [if_pos h1] at h; exact absurd h h1
theorem runFrom_snoc (N : NetM) (x : Int) : ∀ (l r : List Int), runFrom N r (l ++ [x]) = (runFrom N r l).bind fun q => (turnN N q.2 (bitsM x N.ins.toNat)).map fun o => (q.1 ++ [o.1], o.2)
  | [], r => by
    simp only [List.nil_append, runFrom, Option.bind_some]
    cases turnN N r (bitsM x N.ins.toNat) <;> rfl
  | y :: l, r => by
    simp only [List.cons_append, runFrom]
    cases turnN N r (bitsM y N.ins.toNat) with
    | none => rfl
    | some o =>
      simp only [Option.bind_some]
      rw [runFrom_snoc N x l o.2]
      cases runFrom N o.2 l with
      | none => rfl
      | some q =>
        simp only [Option.bind_some, Option.map_some]
        cases turnN N q.2 (bitsM x N.ins.toNat) <;> rfl
theorem runFrom_len {N : NetM} : ∀ {l r : List Int} {q : List (List Int) × List Int}, runFrom N r l = some q → q.1.length = l.length
  | [], r, q, h => by simp [runFrom] at h; subst h; rfl
  | x :: l, r, q, h => by
    simp only [runFrom, Option.bind_eq_some_iff, Option.map_eq_some_iff] at h
    obtain ⟨o, _, q', h2, rfl⟩ := h
    simp [runFrom_len h2]
theorem bits_len (x : Int) (n : Nat) : (bitsM x n).length = n := by
  induction n generalizing x with
  | zero => rfl
  | succ n ih => simp [bitsM, ih]
theorem bits_good (x : Int) (n : Nat) : ∀ y ∈ bitsM x n, y = 0 ∨ y = 1 := by
  induction n generalizing x with
  | zero => simp [bitsM]
  | succ n ih =>
    intro y hy
    rcases List.mem_cons.1 hy with e | e
    · omega
    · exact ih _ y e
theorem bits_at (x : Int) : ∀ (n k : Nat), k < n → (bitsM x n)[k]? = some (x / 2 ^ k % 2)
  | 0, k, h => by omega
  | n + 1, 0, _ => by simp [bitsM]
  | n + 1, k + 1, h => by
    simp only [bitsM, List.getElem?_cons_succ]
    rw [bits_at (x / 2) n k (by omega), Int.ediv_ediv_of_nonneg (by decide), Int.pow_succ, Int.mul_comm]

/-! right nets -/
structure NetOK (N : NetM) : Prop where
  ins0 : 0 ≤ N.ins
  ins3 : N.ins ≤ 3
  gl : N.gates.length ≤ 200
  rl : N.regs.length ≤ 20
  ol : N.outs.length ≤ 3
  al : ∀ g ∈ N.gates, g.args.length ≤ 16
  named : ∀ k ∈ namedM N, 0 ≤ k ∧ k < N.gates.length
  kinds : ∀ g ∈ N.gates, 0 ≤ g.kind ∧ g.kind ≤ 6
  form : ∀ g ∈ N.gates, formM N g = true
theorem checkN_ok {N : NetM} (h : checkN N = 0) : NetOK N := by
  unfold checkN at h
  cases h1 : tooMany N with
  | true => rw [h1] at h; simp at h
  | false =>
  rw [h1, if_neg (by simp)] at h
  cases h2 : N.gates.any manyA with
  | true => rw [h2] at h; simp at h
  | false =>
  rw [h2, if_neg (by simp)] at h
  by_cases h3 : N.ins < 0
  · rw [if_pos h3] at h; cases h
  rw [if_neg h3] at h
  cases h4 : (namedM N).any (badPlace N.gates.length) with
  | true => rw [h4] at h; simp at h
  | false =>
  rw [h4, if_neg (by simp)] at h
  cases h5 : N.gates.any badGK with
  | true => rw [h5] at h; simp at h
  | false =>
  rw [h5, if_neg (by simp)] at h
  cases h6 : N.gates.all (formM N) with
  | false => rw [h6] at h; simp at h
  | true =>
  simp only [tooMany, Bool.or_eq_false_iff, decide_eq_false_iff_not] at h1
  refine ⟨by omega, by omega, by omega, by omega, by omega, fun g hg => ?_, fun k hk => ?_, fun g hg => ?_, fun g hg => List.all_eq_true.1 h6 g hg⟩
  · have := List.any_eq_false.1 h2 g hg; simp [manyA] at this; omega
  · have := List.any_eq_false.1 h4 k hk; simp [badPlace] at this; omega
  · have := List.any_eq_false.1 h5 g hg; simp [badGK] at this; omega
theorem NetOK.check {N : NetM} (h : NetOK N) : checkN N = 0 := by
  have h1 : tooMany N = false := by
    have := h.ins3; have := h.gl; have := h.rl; have := h.ol
    simp only [tooMany, Bool.or_eq_false_iff, decide_eq_false_iff_not]; omega
  have h2 : N.gates.any manyA = false := List.any_eq_false.2 fun g hg => by have := h.al g hg; simp [manyA]; omega
  have h3 : ¬ N.ins < 0 := by have := h.ins0; omega
  have h4 : (namedM N).any (badPlace N.gates.length) = false := List.any_eq_false.2 fun k hk => by have := h.named k hk; simp [badPlace]; omega
  have h5 : N.gates.any badGK = false := List.any_eq_false.2 fun g hg => by have := h.kinds g hg; simp [badGK]; omega
  have h6 : N.gates.all (formM N) = true := List.all_eq_true.2 h.form
  simp [checkN, h1, h2, h3, h4, h5, h6]
theorem NetOK.args {N : NetM} (h : NetOK N) : okArgs N.gates := fun g hg a ha => h.named a (by
  unfold namedM; rw [List.mem_append]; right; exact List.mem_flatMap.2 ⟨g, hg, ha⟩)
theorem NetOK.outs {N : NetM} (h : NetOK N) : inR N.gates.length N.outs := fun a ha => h.named a (by simp [namedM, ha])
theorem NetOK.nexts {N : NetM} (h : NetOK N) : inR N.gates.length (nextsM N) := fun a ha => h.named a (by
  unfold nextsM at ha; unfold namedM; simp only [List.mem_append]; exact .inl (.inr ha))
theorem first_good (N : NetM) : ∀ x ∈ firstM N, x = 0 ∨ x = 1 := fun x hx => by
  obtain ⟨r, _, rfl⟩ := List.mem_map.1 hx
  split <;> simp
theorem good01 {l : List Int} (h : ∀ x ∈ l, x = 0 ∨ x = 1) : goodL l ∧ (2 : Int) ∉ l :=
  ⟨fun x hx => by rcases h x hx with e | e <;> simp [e], fun hm => by rcases h 2 hm with e | e <;> cases e⟩
theorem turnN_good {N : NetM} {regs ins : List Int} {o : List Int × List Int} (hr : goodL regs) (hi : goodL ins) (h : turnN N regs ins = some o) : (∀ x ∈ o.1, x = 0 ∨ x = 1) ∧ ∀ x ∈ o.2, x = 0 ∨ x = 1 := by
  unfold turnN at h
  split at h
  · cases h
  · rename_i hc
    have hc : (2 : Int) ∉ settledM N.gates regs ins := by simpa using hc
    have hv := settled_good (gs := N.gates) hr hi
    have key : ∀ k, valI (settledM N.gates regs ins) k = 0 ∨ valI (settledM N.gates regs ins) k = 1 := fun k => by
      have := val_shut hc k
      rcases valI_good hv k with e | e | e
      · exact .inl e
      · exact .inr e
      · exact absurd e this
    injection h with h; subst h
    exact ⟨fun x hx => by obtain ⟨k, _, rfl⟩ := List.mem_map.1 hx; exact key k, fun x hx => by obtain ⟨k, _, rfl⟩ := List.mem_map.1 hx; exact key k⟩
theorem turnN_len {N : NetM} {regs ins : List Int} {o : List Int × List Int} (h : turnN N regs ins = some o) : o.1.length = N.outs.length ∧ o.2.length = N.regs.length := by
  unfold turnN at h
  split at h
  · cases h
  · injection h with h; subst h; simp [pickM, nextsM]
theorem runFrom_good {N : NetM} : ∀ {l r : List Int} {q : List (List Int) × List Int}, (∀ x ∈ r, x = 0 ∨ x = 1) → r.length = N.regs.length → runFrom N r l = some q →
    (∀ x ∈ q.2, x = 0 ∨ x = 1) ∧ q.2.length = N.regs.length ∧ ∀ row ∈ q.1, row.length = N.outs.length ∧ ∀ x ∈ row, x = 0 ∨ x = 1
  | [], r, q, hr, hl, h => by simp [runFrom] at h; subst h; exact ⟨hr, hl, by simp⟩
  | x :: l, r, q, hr, hl, h => by
    simp only [runFrom, Option.bind_eq_some_iff, Option.map_eq_some_iff] at h
    obtain ⟨o, h1, q', h2, rfl⟩ := h
    have g := turnN_good (good01 hr).1 (good01 (bits_good _ _)).1 h1
    have gl := turnN_len h1
    obtain ⟨k1, k2, k3⟩ := runFrom_good g.2 gl.2 h2
    refine ⟨k1, k2, fun row hrow => ?_⟩
    rcases List.mem_cons.1 hrow with e | e
    · rw [e]; exact ⟨gl.1, g.1⟩
    · exact k3 row e
end Go.Proofs.Ytjagbnaacfhokaa
/- Sixty-four runs at once, in plain Lean: each lane of the words is what is settled by that lane. No program in sight. -/
namespace Go.Proofs.Ytjagbnaacfhokaa
set_option linter.unusedVariables false
set_option linter.unusedSimpArgs false

def valW (v : List (BitVec 64)) (k : Int) : BitVec 64 := v[k.toNat]?.getD 0#64
def andW (v : List (BitVec 64)) (l : List Int) (o : BitVec 64) : BitVec 64 := l.foldl (fun o a => o &&& valW v a) o
def orW (v : List (BitVec 64)) (l : List Int) (o : BitVec 64) : BitVec 64 := l.foldl (fun o a => o ||| valW v a) o
def ofW (regs ins v : List (BitVec 64)) (g : GateM) : BitVec 64 :=
  if g.kind = 1 then BitVec.allOnes 64 else if g.kind = 2 then valW ins g.num else if g.kind = 3 then valW regs g.num
  else if g.kind = 4 then andW v g.args (BitVec.allOnes 64) else if g.kind = 5 then orW v g.args 0#64
  else if g.kind = 6 then ~~~ (valW v (g.args.headD 0)) else 0#64
def alongW (gs : List GateM) (regs ins : List (BitVec 64)) : List Int → List (BitVec 64) → List (BitVec 64)
  | [], v => v
  | k :: l, v => alongW gs regs ins l (v.set k.toNat (ofW regs ins v ((gs[k.toNat]?).getD ⟨0, 0, []⟩)))
def pickW (v : List (BitVec 64)) (l : List Int) : List (BitVec 64) := l.map (valW v)
def playW (N : NetM) (regs ins : List (BitVec 64)) : List (BitVec 64) × List (BitVec 64) :=
  match orderM N.gates with
  | some l => (pickW (alongW N.gates regs ins l (List.replicate N.gates.length 0#64)) N.outs, pickW (alongW N.gates regs ins l (List.replicate N.gates.length 0#64)) (nextsM N))
  | none => ([], [])
def firstW (N : NetM) : List (BitVec 64) := N.regs.map fun r => if r.fst then BitVec.allOnes 64 else 0#64
def runW (N : NetM) : List (BitVec 64) → List (List (BitVec 64)) → List (List (BitVec 64))
  | _, [] => []
  | r, x :: l => (playW N r x).1 :: runW N (playW N r x).2 l

def bitI (k : Nat) (x : BitVec 64) : Int := if x.getLsbD k then 1 else 0
def laneI (k : Nat) (l : List (BitVec 64)) : List Int := l.map (bitI k)

theorem bitI_zero (k : Nat) : bitI k 0#64 = 0 := by simp [bitI]
theorem bitI_ones {k : Nat} (hk : k < 64) : bitI k (BitVec.allOnes 64) = 1 := by unfold bitI; rw [BitVec.getLsbD_allOnes, if_pos (by simpa using hk)]
theorem bitI_01 (k : Nat) (x : BitVec 64) : bitI k x = 0 ∨ bitI k x = 1 := by unfold bitI; split <;> simp
theorem lane_01 (k : Nat) (l : List (BitVec 64)) : ∀ x ∈ laneI k l, x = 0 ∨ x = 1 := fun x hx => by
  obtain ⟨y, _, rfl⟩ := List.mem_map.1 hx; exact bitI_01 k y
theorem lane_len (k : Nat) (l : List (BitVec 64)) : (laneI k l).length = l.length := by simp [laneI]
theorem val_lane (k : Nat) (v : List (BitVec 64)) (a : Int) : valI (laneI k v) a = bitI k (valW v a) := by
  unfold valI laneI valW
  rw [List.getElem?_map]
  cases v[a.toNat]? with
  | none => simp [bitI]
  | some x => rfl
theorem pick_lane (k : Nat) (v : List (BitVec 64)) (l : List Int) : pickM (laneI k v) l = laneI k (pickW v l) := by
  unfold pickM pickW laneI
  rw [List.map_map]
  exact List.map_congr_left fun a _ => val_lane k v a
theorem andW_bit (v : List (BitVec 64)) (k : Nat) (l : List Int) : ∀ o, (andW v l o).getLsbD k = (o.getLsbD k && l.all fun a => (valW v a).getLsbD k) := by
  induction l with
  | nil => intro o; simp [andW]
  | cons a l ih => intro o; simp only [andW, List.foldl_cons, List.all_cons] at *; rw [ih, BitVec.getLsbD_and, Bool.and_assoc]
theorem orW_bit (v : List (BitVec 64)) (k : Nat) (l : List Int) : ∀ o, (orW v l o).getLsbD k = (o.getLsbD k || l.any fun a => (valW v a).getLsbD k) := by
  induction l with
  | nil => intro o; simp [orW]
  | cons a l ih => intro o; simp only [orW, List.foldl_cons, List.any_cons] at *; rw [ih, BitVec.getLsbD_or, Bool.or_assoc]
theorem two_out (k : Nat) (v : List (BitVec 64)) (l : List Int) : ¬ (2 : Int) ∈ l.map (valI (laneI k v)) := by
  intro h
  obtain ⟨a, _, e⟩ := List.mem_map.1 h
  rw [val_lane] at e
  rcases bitI_01 k (valW v a) with h | h <;> omega
theorem worth_lane {k : Nat} (hk : k < 64) (regs ins v : List (BitVec 64)) {g : GateM} (h0 : 0 ≤ g.kind ∧ g.kind ≤ 6) (h6 : g.kind = 6 → g.args.length = 1) :
    worthM (laneI k regs) (laneI k ins) (laneI k v) g = bitI k (ofW regs ins v g) := by
  obtain ⟨kind, num, args⟩ := g
  simp only at h0 h6
  have : kind = 0 ∨ kind = 1 ∨ kind = 2 ∨ kind = 3 ∨ kind = 4 ∨ kind = 5 ∨ kind = 6 := by omega
  rcases this with rfl | rfl | rfl | rfl | rfl | rfl | rfl
  · simp [worthM, ofW, bitI_zero]
  · have e2 : ofW regs ins v ⟨1, num, args⟩ = BitVec.allOnes 64 := by unfold ofW; rw [if_pos rfl]
    rw [e2, bitI_ones hk]; simp [worthM]
  · simp [worthM, ofW, val_lane]
  · simp [worthM, ofW, val_lane]
  · have e1 : worthM (laneI k regs) (laneI k ins) (laneI k v) ⟨4, num, args⟩ = ofM 4 (args.map (valI (laneI k v))) := by simp [worthM]
    have e2 : ofW regs ins v ⟨4, num, args⟩ = andW v args (BitVec.allOnes 64) := by simp [ofW]
    rw [e1, e2, show ofM 4 (args.map (valI (laneI k v))) = gatherM 0 (args.map (valI (laneI k v))) 1 from by simp [ofM], gatherM_eq 0 (by decide), if_neg (two_out k v args)]
    unfold bitI
    rw [andW_bit, BitVec.getLsbD_allOnes]
    have : ((0 : Int) ∈ args.map (valI (laneI k v))) = ¬ (args.all fun a => (valW v a).getLsbD k) = true := by
      rw [eq_iff_iff, List.all_eq_true, List.mem_map]
      constructor
      · rintro ⟨a, ha, e⟩ hx; rw [val_lane, bitI, if_pos (hx a ha)] at e; cases e
      · intro hx
        refine Classical.byContradiction fun hn => hx fun a ha => ?_
        cases e : (valW v a).getLsbD k with
        | true => rfl
        | false => exact absurd ⟨a, ha, by rw [val_lane, bitI, e]; rfl⟩ hn
    simp only [this, hk, decide_true, Bool.true_and]
    cases args.all fun a => (valW v a).getLsbD k <;> simp
  · have e1 : worthM (laneI k regs) (laneI k ins) (laneI k v) ⟨5, num, args⟩ = ofM 5 (args.map (valI (laneI k v))) := by simp [worthM]
    have e2 : ofW regs ins v ⟨5, num, args⟩ = orW v args 0#64 := by simp [ofW]
    rw [e1, e2, show ofM 5 (args.map (valI (laneI k v))) = gatherM 1 (args.map (valI (laneI k v))) 0 from by simp [ofM], gatherM_eq 1 (by decide), if_neg (two_out k v args)]
    unfold bitI
    rw [orW_bit]
    have : ((1 : Int) ∈ args.map (valI (laneI k v))) = ((args.any fun a => (valW v a).getLsbD k) = true) := by
      rw [eq_iff_iff, List.any_eq_true, List.mem_map]
      constructor
      · rintro ⟨a, ha, e⟩
        refine ⟨a, ha, ?_⟩
        rw [val_lane, bitI] at e
        cases e2 : (valW v a).getLsbD k with
        | true => rfl
        | false => rw [e2] at e; simp at e
      · rintro ⟨a, ha, e⟩; exact ⟨a, ha, by rw [val_lane, bitI, if_pos e]⟩
    simp only [this, BitVec.getLsbD_zero, Bool.false_or]
  · obtain ⟨a, rfl⟩ := List.length_eq_one_iff.1 (h6 rfl)
    have e1 : worthM (laneI k regs) (laneI k ins) (laneI k v) ⟨6, num, [a]⟩ = notM (valI (laneI k v) a) := by simp [worthM, ofM]
    have e2 : ofW regs ins v ⟨6, num, [a]⟩ = ~~~ (valW v a) := by simp [ofW]
    rw [e1, e2, val_lane]
    unfold bitI
    rw [BitVec.getLsbD_not]
    cases (valW v a).getLsbD k <;> simp [hk, notM]
theorem along_lane {k : Nat} (hk : k < 64) {gs : List GateM} (h : ∀ g ∈ gs, (0 ≤ g.kind ∧ g.kind ≤ 6) ∧ (g.kind = 6 → g.args.length = 1)) (regs ins : List (BitVec 64)) : ∀ (l : List Int) (v : List (BitVec 64)),
    laneI k (alongW gs regs ins l v) = alongM gs (laneI k regs) (laneI k ins) l (laneI k v)
  | [], _ => rfl
  | j :: l, v => by
    simp only [alongW, alongM]
    rw [along_lane hk h regs ins l]
    congr 1
    unfold laneI
    rw [List.map_set]
    congr 1
    have : (0 ≤ ((gs[j.toNat]?).getD ⟨0, 0, []⟩).kind ∧ ((gs[j.toNat]?).getD ⟨0, 0, []⟩).kind ≤ 6) ∧ (((gs[j.toNat]?).getD ⟨0, 0, []⟩).kind = 6 → ((gs[j.toNat]?).getD ⟨0, 0, []⟩).args.length = 1) := by
      cases e : gs[j.toNat]? with
      | none => exact ⟨by decide, fun h => by cases h⟩
      | some g => exact h g (List.mem_of_getElem? e)
    exact (worth_lane hk regs ins v this.1 this.2).symm
theorem alongW_len (gs : List GateM) (regs ins : List (BitVec 64)) : ∀ (l : List Int) (v : List (BitVec 64)), (alongW gs regs ins l v).length = v.length
  | [], v => rfl
  | k :: l, v => by simp only [alongW]; rw [alongW_len gs regs ins l]; simp
/-- Words that agree in every lane are the same. -/
theorem lanes_ext {a b : List (BitVec 64)} (h : ∀ k < 64, laneI k a = laneI k b) : a = b := by
  have hl : a.length = b.length := by have := congrArg List.length (h 0 (by decide)); simpa [laneI] using this
  refine List.ext_getElem hl fun i h1 h2 => ?_
  refine BitVec.eq_of_getLsbD_eq fun k hk => ?_
  have := congrArg (fun l => l[i]?) (h k hk)
  simp only [laneI, List.getElem?_map, List.getElem?_eq_getElem h1, List.getElem?_eq_getElem h2, Option.map_some] at this
  injection this with this
  unfold bitI at this
  cases e1 : a[i].getLsbD k <;> cases e2 : b[i].getLsbD k <;> rw [e1, e2] at this <;> simp at this <;> rfl
theorem NetOK.forms {N : NetM} (h : NetOK N) : ∀ g ∈ N.gates, (0 ≤ g.kind ∧ g.kind ≤ 6) ∧ (g.kind = 6 → g.args.length = 1) := fun g hg => by
  refine ⟨h.kinds g hg, fun e => ?_⟩
  have := h.form g hg
  unfold formM at this
  rw [e] at this
  simp at this
  exact this.1.1
theorem NetOK.okA {N : NetM} (h : NetOK N) : okArgs N.gates := fun g hg a ha => h.named a (List.mem_append_right _ (List.mem_flatMap.2 ⟨g, hg, ha⟩))
/-- Each lane of what is told along the order is what is settled. -/
theorem alongW_settled {N : NetM} {l : List Int} (ok : NetOK N) (h : orderM N.gates = some l) {k : Nat} (hk : k < 64) (regs ins : List (BitVec 64)) {v : List (BitVec 64)} (hv : v.length = N.gates.length) :
    laneI k (alongW N.gates regs ins l v) = settledM N.gates (laneI k regs) (laneI k ins) := by
  rw [along_lane hk ok.forms, along_settled ok.okA h (by rw [lane_len, hv])]
/-- What the words were ahead of an instant does not matter. -/
theorem alongW_any {N : NetM} {l : List Int} (ok : NetOK N) (h : orderM N.gates = some l) (regs ins : List (BitVec 64)) {v : List (BitVec 64)} (hv : v.length = N.gates.length) :
    alongW N.gates regs ins l v = alongW N.gates regs ins l (List.replicate N.gates.length 0#64) :=
  lanes_ext fun k hk => by rw [alongW_settled ok h hk regs ins hv, alongW_settled ok h hk regs ins (by simp)]
theorem play_any {N : NetM} {l : List Int} (ok : NetOK N) (h : orderM N.gates = some l) (regs ins : List (BitVec 64)) {v : List (BitVec 64)} (hv : v.length = N.gates.length) :
    playW N regs ins = (pickW (alongW N.gates regs ins l v) N.outs, pickW (alongW N.gates regs ins l v) (nextsM N)) := by
  unfold playW; rw [h, alongW_any ok h regs ins hv]
/-- Each lane is what that lane does alone. -/
theorem turn_lane {N : NetM} {l : List Int} (ok : NetOK N) (h : orderM N.gates = some l) {k : Nat} (hk : k < 64) (regs ins : List (BitVec 64)) :
    turnN N (laneI k regs) (laneI k ins) = some (laneI k (playW N regs ins).1, laneI k (playW N regs ins).2) := by
  unfold turnN
  rw [play_any ok h regs ins (List.length_replicate (n := N.gates.length) (a := 0#64))]
  rw [← alongW_settled ok h hk regs ins (List.length_replicate (n := N.gates.length) (a := 0#64))]
  rw [if_neg]
  · rw [pick_lane, pick_lane]
  · intro hc
    have hm : (2 : Int) ∈ laneI k (alongW N.gates regs ins l (List.replicate N.gates.length 0#64)) := by simpa using hc
    rcases lane_01 _ _ _ hm with e | e <;> cases e
theorem play_len {N : NetM} {l : List Int} (h : orderM N.gates = some l) (regs ins : List (BitVec 64)) : (playW N regs ins).1.length = N.outs.length ∧ (playW N regs ins).2.length = N.regs.length := by
  unfold playW; rw [h]; simp [pickW, nextsM]

/-! the lanes, put together again -/
def lowW (k : Nat) (x : BitVec 64) : BitVec 64 := BitVec.ofNat 64 (x.toNat % 2 ^ k)
theorem lowW_bit (k i : Nat) (x : BitVec 64) : (lowW k x).getLsbD i = (decide (i < k) && x.getLsbD i) := by
  unfold lowW
  rw [BitVec.getLsbD_ofNat, Nat.testBit_mod_two_pow]
  by_cases h : i < 64
  · simp [h, BitVec.getLsbD]
  · rw [BitVec.getLsbD_of_ge x i (by omega)]; simp [h]
theorem lowW_zero (x : BitVec 64) : lowW 0 x = 0#64 := BitVec.eq_of_getLsbD_eq fun i _ => by rw [lowW_bit]; simp
theorem lowW_all (x : BitVec 64) : lowW 64 x = x := BitVec.eq_of_getLsbD_eq fun i h => by rw [lowW_bit]; simp [h]
theorem low_toNat (k : Nat) (x : BitVec 64) : (lowW k x).toNat = x.toNat % 2 ^ k := by
  unfold lowW; rw [BitVec.toNat_ofNat, Nat.mod_eq_of_lt]
  exact Nat.lt_of_le_of_lt (Nat.mod_le _ _) x.isLt
/-- One lane more. -/
theorem low_step (k : Nat) (x : BitVec 64) : (lowW (k + 1) x).toNat = (lowW k x).toNat ||| (bitI k x).toNat * 2 ^ k := by
  rw [low_toNat, low_toNat]
  refine Nat.eq_of_testBit_eq fun i => ?_
  rw [Nat.testBit_mod_two_pow, Nat.testBit_or, Nat.testBit_mod_two_pow, Nat.mul_comm, Nat.testBit_two_pow_mul]
  have hx : x.getLsbD k = x.toNat.testBit k := rfl
  unfold bitI; rw [hx]
  rcases Nat.lt_trichotomy i k with h | h | h
  · have : ¬ k ≤ i := by omega
    simp [h, this, Nat.lt_succ_of_lt h]
  · subst h
    cases e : x.toNat.testBit i <;> simp
  · have h1 : ¬ i < k := by omega
    have h2 : ¬ i < k + 1 := by omega
    have h3 : ¬ i ≤ k := by omega
    simp only [h1, h2, decide_false, Bool.false_and, Bool.false_or]
    symm
    simp only [Bool.and_eq_false_iff]
    right
    obtain ⟨d, hd⟩ : ∃ d, i - k = d + 1 := ⟨i - k - 1, by omega⟩
    rw [hd]
    split <;> simp [Nat.testBit_succ]
/-! a run of 64, and the run of one lane -/
def lastW (N : NetM) : List (BitVec 64) → List (List (BitVec 64)) → List (BitVec 64)
  | r, [] => r
  | r, x :: l => lastW N (playW N r x).2 l
def packX (k : Nat) : List (BitVec 64) → Int
  | [] => 0
  | x :: l => 2 * packX k l + bitI k x
theorem packX_bits (k : Nat) : ∀ l : List (BitVec 64), bitsM (packX k l) l.length = laneI k l
  | [] => rfl
  | x :: l => by
    have h1 : (2 * packX k l + bitI k x) % 2 = bitI k x := by rcases bitI_01 k x with h | h <;> omega
    have h2 : (2 * packX k l + bitI k x) / 2 = packX k l := by rcases bitI_01 k x with h | h <;> omega
    simp only [packX, List.length_cons, bitsM, h1, h2, packX_bits k l]
    rfl
theorem packX_range (k : Nat) : ∀ l : List (BitVec 64), 0 ≤ packX k l ∧ packX k l < 2 ^ l.length
  | [] => by simp [packX]
  | x :: l => by
    obtain ⟨h1, h2⟩ := packX_range k l
    simp only [packX, List.length_cons, Int.pow_succ]
    rcases bitI_01 k x with h | h <;> omega
theorem first_lane {k : Nat} (hk : k < 64) (N : NetM) : laneI k (firstW N) = firstM N := by
  unfold laneI firstW firstM
  rw [List.map_map]
  refine List.map_congr_left fun r _ => ?_
  show bitI k (if r.fst then BitVec.allOnes 64 else 0#64) = _
  cases r.fst with
  | false => rw [if_neg (by decide), if_neg (by decide)]; exact bitI_zero k
  | true => rw [if_pos rfl, if_pos rfl]; exact bitI_ones hk
theorem run_lane {N : NetM} {l : List Int} (ok : NetOK N) (h : orderM N.gates = some l) {k : Nat} (hk : k < 64) : ∀ (rows : List (List (BitVec 64))) (regs : List (BitVec 64)), (∀ r ∈ rows, (r.length : Int) = N.ins) →
    runFrom N (laneI k regs) (rows.map (packX k)) = some ((runW N regs rows).map (laneI k), laneI k (lastW N regs rows))
  | [], regs, _ => rfl
  | x :: rows, regs, hr => by
    have hx := hr x (by simp)
    simp only [List.map_cons, runFrom]
    rw [show N.ins.toNat = x.length from by omega, packX_bits, turn_lane ok h hk regs x]
    simp only [Option.bind_some]
    rw [run_lane ok h hk rows _ (fun r h => hr r (by simp [h]))]
    rfl
theorem runW_len (N : NetM) : ∀ (rows : List (List (BitVec 64))) (regs : List (BitVec 64)), (runW N regs rows).length = rows.length
  | [], _ => rfl
  | x :: rows, regs => by simp [runW, runW_len N rows]
end Go.Proofs.Ytjagbnaacfhokaa
/- More words on memory: rows made shorter; an append a little beyond what came in. No program in sight. -/
namespace Go.Proofs.Ytjagbnaacfhokaa
set_option linter.unusedVariables false
set_option linter.unusedSimpArgs false
open Go.RowKit

/-- The front of an own row. -/
theorem own_take {w : World} {base : Nat} {e : TypeId} {g n c : Nat} {xs : List Value} (h : w.ownsRow base e 1 (.slice (some ⟨g, 0, none⟩) n c) n xs) {m : Nat} (hm : m ≤ n) :
    w.ownsRow base e 1 (.slice (some ⟨g, 0, none⟩) m c) m (xs.take m) := by
  obtain ⟨hl, ⟨h0, _⟩ | ⟨g', cap, cur, hv, hb, hg, hnc, hcm, hcs, ht⟩⟩ := h
  · cases h0
  · injection hv with h1 h2 h3
    injection h1 with h1; injection h1 with h1
    subst h1; subst h3
    refine ⟨by simp; omega, .inr ⟨g, c, cur, rfl, hb, hg, by omega, hcm, hcs, ?_⟩⟩
    rw [← ht, List.take_take]; congr 1; omega
theorem own_drop_last {w : World} {base : Nat} {e : TypeId} {g n c : Nat} {ys : List Value} {y : Value} (h : w.ownsRow base e 1 (.slice (some ⟨g, 0, none⟩) (n + 1) c) (n + 1) (ys ++ [y])) :
    w.ownsRow base e 1 (.slice (some ⟨g, 0, none⟩) n c) n ys ∧ w.cell? ⟨g, n, none⟩ = some y := by
  have hl : ys.length = n := by have := h.1; simp at this; omega
  refine ⟨?_, ?_⟩
  · have := own_take h (Nat.le_succ n)
    rwa [List.take_left' hl] at this
  · rw [h.cellAt n (by omega), List.getElem?_append_right (by omega), hl]; simp
theorem growslice_big {need old bytes : Nat} (h : old < need) (hb : need * bytes ≤ 140737489403904) (h8 : bytes ≤ 65536) : Builtin.nextslicecap need old * bytes ≤ 281474976710656 := by
  have h1 : Builtin.nextslicecap need old ≤ need + need / 4 + 1024 ∨ Builtin.nextslicecap need old ≤ 512 := by
    unfold Builtin.nextslicecap
    split
    · omega
    · split
      · omega
      · rw [growBy_four]
        repeat' split
        all_goals omega
  rcases h1 with h1 | h1
  · have h2 : Builtin.nextslicecap need old * bytes ≤ (need + need / 4 + 1024) * bytes := Nat.mul_le_mul_right _ h1
    have h3 : need / 4 * bytes ≤ need * bytes := Nat.mul_le_mul_right _ (Nat.div_le_self _ _)
    have h3' : need / 4 * bytes * 4 ≤ need * bytes := by rw [Nat.mul_right_comm]; exact Nat.mul_le_mul_right _ (Nat.div_mul_le_self _ _)
    have h4 : 1024 * bytes ≤ 67108864 := by omega
    rw [Nat.add_mul, Nat.add_mul] at h2
    omega
  · have h2 : Builtin.nextslicecap need old * bytes ≤ 512 * bytes := Nat.mul_le_mul_right _ h1
    omega
/-- append of all of a slice of one-cell elements onto a row of the call's own; the row may be a little longer than what came in. -/
theorem wpList_appendBig {P : Program} {ops : Array Oper} {rest : List Oper} {o : Oper} {a : Act} {Q : Exit → Act → World → Prop} {w : World} (hgd : o.guard = none) (s x : Operand) (t e : TypeId)
    (ho : o.op = .call { callee := .builtin .append, args := #[s, x], argTypes := #[t, t] })
    {z : Value} {bytes : Nat} (tab : (P.info? e).map (fun i => (i.zero, i.size, i.bytes)) = some (some z, 1, bytes)) (ht : P.underlying t = some (.slice e)) (hzs : z.cells.size = 1) (h8 : bytes ≤ 65536)
    (W0 : World) (hext : Ext W0 w) (v : Value) (n : Nat) (xs : List Value) (hs : a.eval s = v) (hown : w.ownsRow W0.heap.size e 1 v n xs)
    (A : Option Addr) (m c : Nat) (news : List Value) (hx : a.eval x = .slice A m c) (hr : Sl w A m news) (h1 : ∀ u ∈ news, u.oneCell' = true)
    (hbytes : (n + m) * bytes ≤ 140737489403904) (hm4 : n + m ≤ 9007199254740992)
    (h : ∀ v' w', w'.ownsRow W0.heap.size e 1 v' (n + m) (xs ++ news) → Ext W0 w' → w.grownBy w' v.ownBlock → (∀ k, v'.ownBlock = some k → v.ownBlock = some k ∨ w.heap.size ≤ k) → wpList P ops Q rest (a.put o.dst v') w') : wpList P ops Q (o :: rest) a w := by
  have h63 : n + m ≤ maxLen := by unfold maxLen; omega
  obtain ⟨i, hi, hz, hs1, hs2⟩ := info_parts tab
  have hb : ∀ k, v.ownBlock = some k → W0.heap.size ≤ k := fun k hk => (hown.lt k hk).1
  rcases Nat.eq_zero_or_pos m with hm0 | hmp
  · subst hm0
    have hn : news = [] := List.eq_nil_of_length_eq_zero hr.1
    subst hn
    refine wpList_plain hgd fun K hK => ?_
    have hrun : (Builtin.append_ #[t, t] o.type #[v, .slice A 0 c]).run P w = .ok v w := by
      rcases hown.2 with ⟨rfl, rfl⟩ | ⟨g, cap, cur, rfl, _, _, hnc, _⟩
      · simp [Builtin.append_, run_underlying ht, sizeOf, typeInfo, hi, Builtin.lenOf, Builtin.firstCells, loadCells, loadCellsFrom]
        try (cases A <;> simp [Builtin.firstCells, loadCells, loadCellsFrom])
      · simp [Builtin.append_, run_underlying ht, sizeOf, typeInfo, hi, Builtin.lenOf, hnc]
        cases A <;> simp [Builtin.firstCells, loadCells, loadCellsFrom, storeCells]
    unfold Oper.wp execOp
    simp only [ho, resolve, invoke, builtin, Sem.run_bind, Sem.run_pure, Result.andThen_ok, List.map_toArray, List.map_cons, List.map_nil, hs, hx, hrun]
    exact hK _ _ (h v w (by simpa using hown) hext (World.grownBy.refl w _) (fun k hk => .inl hk))
  obtain ⟨b, off, rfl⟩ : ∃ b off, A = some ⟨b, off, none⟩ := by
    have hl : 0 < news.length := by rw [hr.1]; exact hmp
    obtain ⟨b, off, e2, _⟩ := hr.2 0 _ (List.getElem?_eq_getElem hl)
    exact ⟨b, off, e2⟩
  have hcells : ∀ j u, news[j]? = some u → w.cell? ((⟨b, off, none⟩ : Addr).add j) = some u := by
    intro j u hu
    obtain ⟨b', off', e2, hc⟩ := hr.2 j u hu
    injection e2 with e2; injection e2 with e2 e3
    subst e2; subst e3
    rw [add_plain']; exact hc
  have hnl : news.length = m * i.size := by rw [hs1, hr.1]; omega
  have hlen : (xs ++ news).length = (n + m) * 1 := by have := hown.1; have := hr.1; simp; omega
  have grown : ∀ (old : Nat), old < n + m → ∀ (row : Option Nat),
      (w.drew.alloc (.cells (xs.toArray ++ news.toArray ++ Builtin.zeroCells z.cells (grownCap w (n + m) old e - (n + m))) e)).ownsRow W0.heap.size e 1
        (.slice (some ⟨w.heap.size, 0, none⟩) (n + m) (grownCap w (n + m) old e)) (n + m) (xs ++ news) ∧
      w.grownBy (w.drew.alloc (.cells (xs.toArray ++ news.toArray ++ Builtin.zeroCells z.cells (grownCap w (n + m) old e - (n + m))) e)) row := by
    intro old ho' row
    have hge := grownCap_ge w (n + m) old e
    refine ⟨⟨hlen, .inr ⟨w.heap.size, _, _, rfl, hext.size, heap_alloc_new w.drew _, hge, grownCap_le_maxLen w (n + m) old e h63, ?_, ?_⟩⟩, ⟨rfl, rfl, rfl, by simp, fun k hk _ => Below.heap_alloc w.drew _ k hk⟩⟩
    · simp only [Array.size_append, List.size_toArray, size_zeroCells, hzs, hown.1, hr.1, Nat.mul_one]
      omega
    · simp only [Array.toList_append, List.append_assoc]
      rw [← List.append_assoc, ← hlen]
      exact List.take_left
  have hres : ∃ v' w', (Builtin.append_ #[t, t] o.type #[v, .slice (some ⟨b, off, none⟩) m c]).run P w = .ok v' w' ∧ w'.ownsRow W0.heap.size e 1 v' (n + m) (xs ++ news) ∧ w.grownBy w' v.ownBlock ∧ (∀ k, v'.ownBlock = some k → v.ownBlock = some k ∨ w.heap.size ≤ k) := by
    rcases hown.2 with ⟨rfl, rfl⟩ | ⟨g, cap, cur, rfl, hbg, hg, hnc, hcm, hcs, htake⟩
    · have hx0 : xs = [] := List.eq_nil_of_length_eq_zero (by simpa using hown.1)
      subst hx0
      have hr0 := run_append_nil (P := P) w t o.type e i z ht hi hz ⟨b, off, none⟩ m c news hnl hcells hmp (by omega) (by rw [hs2]; simp only [Nat.zero_add] at hbytes; omega)
      have hgr := grown 0 (by omega) (Value.ownBlock (.slice none 0 0))
      simp only [Nat.zero_add, List.nil_append, Array.empty_append] at hgr ⊢
      exact ⟨_, _, hr0, hgr.1, hgr.2, fun k hk => .inr (by simp [Value.ownBlock] at hk; omega)⟩
    · by_cases hroom : n + m ≤ cap
      · have hfit : n * i.size + news.length ≤ cur.size := by rw [hs1, hr.1, hcs]; omega
        have hr0 := run_append_room (P := P) w t o.type e i ht hi g n cap cur hg ⟨b, off, none⟩ m c news hnl hcells h1 hroom hfit
        refine ⟨_, _, hr0, ⟨hlen, .inr ⟨g, cap, _, rfl, hbg, setRow_heap w g cur _ e _ hg, hroom, hcm, ?_, ?_⟩⟩, ⟨rfl, rfl, rfl, by simp, fun k _ hk => setRow_other w g k _ (fun e => hk (by simp [Value.ownBlock, e]))⟩, fun k hk => .inl hk⟩
        · rw [hs1] at *
          simp only [List.size_toArray, List.length_append, List.length_take, List.length_drop, Array.length_toList]
          omega
        · rw [hs1, htake, ← hlen]
          exact List.take_left
      · have holds : ∀ j u, xs[j]? = some u → w.cell? ((⟨g, 0, none⟩ : Addr).add j) = some u := hown.cells (g := g) rfl
        have hr0 := run_append_grow (P := P) w t o.type e i z ht hi hz ⟨g, 0, none⟩ n cap xs (by rw [hs1]; exact hown.1) holds ⟨b, off, none⟩ m c news hnl hcells (by omega) (by omega) (by rw [hs2]; exact growslice_big (by omega) hbytes h8)
        have hgr := grown cap (by omega) (Value.ownBlock (.slice (some ⟨g, 0, none⟩) n cap))
        exact ⟨_, _, hr0, hgr.1, hgr.2, fun k hk => .inr (by simp [Value.ownBlock] at hk; omega)⟩
  obtain ⟨v', w', hrun, k1, k2, k3⟩ := hres
  refine wpList_plain hgd fun K hK => ?_
  unfold Oper.wp execOp
  simp only [ho, resolve, invoke, builtin, Sem.run_bind, Sem.run_pure, Result.andThen_ok, List.map_toArray, List.map_cons, List.map_nil, hs, hx, hrun]
  exact hK _ _ (h v' w' k1 (Below.grown hext k2 hext.size hb) k2 k3)
/-- One place of an own row is written; another own row stays. -/
theorem own_other {w : World} {base : Nat} {e : TypeId} {size n : Nat} {v : Value} {xs : List Value} (h : w.ownsRow base e size v n xs) {g j : Nat} {u : Value} (hg : v.ownBlock ≠ some g) : (w.setCell ⟨g, j, none⟩ u).ownsRow base e size v n xs := by
  refine h.kept (row := some g) ⟨rfl, rfl, rfl, by simp, fun k _ hk => heap_setCell_other w ⟨g, j, none⟩ k u (fun e => hk (by simp [e]))⟩ (.inr hg)
end Go.Proofs.Ytjagbnaacfhokaa
/- A row of rows that a call makes, one row behind the other; SameRows. -/
namespace Go.Proofs.Ytjagbnaacfhokaa
set_option linter.unusedVariables false
set_option linter.unusedSimpArgs false
open Go.RowKit

theorem own_types {w : World} {base base' : Nat} {e e' : TypeId} {size size' n m : Nat} {v v' : Value} {xs ys : List Value} (h : w.ownsRow base e size v n xs) (h' : w.ownsRow base' e' size' v' m ys) (hne : e ≠ e') : v.ownBlock = none ∨ v.ownBlock ≠ v'.ownBlock := by
  rcases h.2 with ⟨rfl, _⟩ | ⟨g, cap, cur, rfl, _, hg, _⟩
  · exact .inl rfl
  · right
    intro e1
    rcases h'.2 with ⟨rfl, _⟩ | ⟨g', cap', cur', rfl, _, hg', _⟩
    · cases e1
    · have e2 : g = g' := Option.some.inj e1
      subst e2
      rw [hg] at hg'
      injection hg' with hg'
      injection hg' with _ h3 _
      exact hne h3
/-- A row of rows of numbers, all of the call's own. -/
structure OwnRows (E T : TypeId) (w : World) (base : Nat) (s : Value) (rows : List (List Int)) (vs : List Value) : Prop where
  row : w.ownsRow base E 1 s rows.length vs
  own : ∀ (k : Nat) v r, vs[k]? = some v → rows[k]? = some r → w.ownsRow base T 1 v r.length (r.map I)
section
variable {E T : TypeId} {w w' : World} {base : Nat} {s : Value} {rows : List (List Int)} {vs : List Value}
theorem OwnRows.vl (h : OwnRows E T w base s rows vs) : vs.length = rows.length := by have := h.row.1; omega
theorem OwnRows.nil (E T : TypeId) (w : World) (base : Nat) : OwnRows E T w base (.slice none 0 0) [] [] := ⟨World.ownsRow_nil _ _ _ _, fun k v r h => by simp at h⟩
theorem OwnRows.ext (h : OwnRows E T w base s rows vs) (hx : Ext w w') : OwnRows E T w' base s rows vs := ⟨own_ext h.row hx, fun k v r hv hr => own_ext (h.own k v r hv hr) hx⟩
theorem OwnRows.base_le {base' : Nat} (h : OwnRows E T w base s rows vs) (hb : base' ≤ base) : OwnRows E T w base' s rows vs := ⟨own_base h.row hb, fun k v r hv hr => own_base (h.own k v r hv hr) hb⟩
theorem OwnRows.push (h : OwnRows E T w base s rows vs) (hne : T ≠ E) {s' v : Value} {r : List Int} (hv : w.ownsRow base T 1 v r.length (r.map I)) (hown : w'.ownsRow base E 1 s' (rows.length + 1) (vs ++ [v])) (hg : w.grownBy w' s.ownBlock) :
    OwnRows E T w' base s' (rows ++ [r]) (vs ++ [v]) := by
  refine ⟨by simpa using hown, fun k y z hy hz => ?_⟩
  have hvl := h.vl
  by_cases hk : k < vs.length
  · rw [List.getElem?_append_left hk] at hy
    rw [List.getElem?_append_left (by omega)] at hz
    have h1 := h.own k y z hy hz
    exact h1.kept hg (own_types h1 h.row hne)
  · rw [List.getElem?_append_right (by omega)] at hy hz
    rw [← hvl] at hz
    cases hq : k - vs.length with
    | zero =>
      rw [hq] at hy hz
      simp at hy hz
      subst hy; subst hz
      exact hv.kept hg (own_types hv h.row hne)
    | succ q => rw [hq] at hy; simp at hy
end
/-- A slice of slices of numbers that is read. -/
def SlRows (w : World) (A : Option Addr) (n : Nat) (rows : List (List Int)) : Prop :=
  rows.length = n ∧ ∀ (k : Nat) r, rows[k]? = some r → ∃ b off A' c, A = some ⟨b, off, none⟩ ∧ w.cell? ⟨b, off + k, none⟩ = some (.slice A' r.length c) ∧ Sl w A' r.length (r.map I) ∧ r.length ≤ c ∧ c ≤ maxLen
theorem SlRows.keep {w w' : World} {A : Option Addr} {n : Nat} {rows : List (List Int)} (h : SlRows w A n rows) (hk : Keeps w w') : SlRows w' A n rows :=
  ⟨h.1, fun k r hr => let ⟨b, off, A', c, e, hc, hs, h1, h2⟩ := h.2 k r hr; ⟨b, off, A', c, e, hk _ _ hc, hs.keep hk, h1, h2⟩⟩
theorem SlRows.nil (w : World) (A : Option Addr) : SlRows w A 0 [] := ⟨rfl, fun k r h => by simp at h⟩
theorem OwnRows.slice {E T : TypeId} {w : World} {base : Nat} {s : Value} {rows : List (List Int)} {vs : List Value} (h : OwnRows E T w base s rows vs) : ∃ A c, s = .slice A rows.length c ∧ rows.length ≤ c ∧ c ≤ maxLen ∧ SlRows w A rows.length rows := by
  obtain ⟨A, c, rfl, h1, h2, hc⟩ := own_slice h.row
  refine ⟨A, c, rfl, h1, h2, rfl, fun k r hr => ?_⟩
  have hk : k < vs.length := by have := h.vl; have := (List.getElem?_eq_some_iff.1 hr).1; omega
  obtain ⟨b, off, e, hcell⟩ := hc k vs[k] (List.getElem?_eq_getElem hk)
  obtain ⟨A', c', e', g1, g2, hs⟩ := own_sl (h.own k vs[k] r (List.getElem?_eq_getElem hk) hr)
  exact ⟨b, off, A', c', e, by rw [hcell, e'], hs, g1, g2⟩
end Go.Proofs.Ytjagbnaacfhokaa
/- A region that draws its order, by one fact for each operation: whatever order is drawn, each operation's slot holds what its fact says. -/
namespace Go.Proofs.Ytjagbnaacfhokaa
set_option linter.unusedVariables false
set_option linter.unusedSimpArgs false
open Go.RowKit

theorem wpOp_step' {P : Program} {ops : Array Oper} {Q : Exit → Act → World → Prop} {i : Nat} {o : Oper} {K : Act → World → Prop} {a : Act} {w : World} (ho : ops[i]? = some o) (h1 : Region.wanted o (yielded ops a.tmps) = true) (h2 : Oper.wp P o a w K Q) : wpOp P ops Q i K a w := by
  unfold wpOp
  rw [ho]
  show if Region.wanted o (yielded ops a.tmps) = true then _ else _
  rw [if_pos h1]; exact .inl h2
theorem wpAny_inv {P : Program} {md : Region.Mode} {ops : Array Oper} {Q : Exit → Act → World → Prop} (I : Array Bool → Act → World → Prop)
    (step : ∀ listed a w i, listed.size = ops.size → I listed a w → i ∈ Region.ready md ops listed → wpOp P ops Q i (I (listed.setIfInBounds i true)) a w)
    (last : ∀ listed a w, I listed a w → Region.ready md ops listed = [] → Q .normal a w) :
    ∀ (fuel : Nat) (listed : Array Bool) (a : Act) (w : World), listed.size = ops.size → listed.toList.count false ≤ fuel → I listed a w → wpAny P md ops Q fuel listed a w
  | 0, listed, a, w, hs, hc, hI => by
    have hr : Region.ready md ops listed = [] := by
      unfold Region.ready
      refine List.filter_eq_nil_iff.2 fun i hi => ?_
      have hlt : i < listed.size := by rw [hs]; exact List.mem_range.1 hi
      have h0 : listed.toList.count false = 0 := by omega
      have hm := List.count_eq_zero.1 h0
      have hx : listed[i] = true := by
        cases h : listed[i] with
        | true => rfl
        | false => exact absurd (by rw [← h]; exact Array.getElem_mem_toList hlt) hm
      simp [Array.getD, hlt, hx]
    exact ⟨hr, last _ _ _ hI hr⟩
  | fuel + 1, listed, a, w, hs, hc, hI => by
    refine ⟨fun hr => last _ _ _ hI hr, fun i hi => ?_⟩
    refine wpOp_mono (fun a' w' h => wpAny_inv I step last fuel _ a' w' (by simpa using hs) ?_ h) (step listed a w i hs hI hi)
    have hm : i < ops.size ∧ listed.getD i true = false := by
      unfold Region.ready at hi
      obtain ⟨h1, h2⟩ := List.mem_filter.1 hi
      refine ⟨List.mem_range.1 h1, ?_⟩
      simp only [Bool.and_eq_true, Bool.not_eq_true'] at h2
      exact h2.1
    obtain ⟨h1, h2⟩ := hm
    have hlt : i < listed.size := by omega
    have hx : listed.toList[i]'(by simpa using hlt) = false := by simpa [Array.getD, hlt] using h2
    have := List.count_set (a := true) (b := false) (l := listed.toList) (i := i) (by simpa using hlt)
    simp only [Array.toList_setIfInBounds]
    have hpos : 0 < listed.toList.count false := List.count_pos_iff.2 (by rw [← hx]; exact List.getElem_mem _)
    rw [this, hx]
    have e1 : (if (false == false) = true then 1 else 0) = 1 := rfl
    have e2 : (if (true == false) = true then 1 else 0) = 0 := rfl
    rw [e1, e2]; omega

/-- What is known in the midst of such a region: nothing old has changed, and each operation that has come up has left what its fact says. -/
structure Flow (W0 : World) (a0 : Act) (ops : Array Oper) (F : Nat → Value → World → Prop) (listed : Array Bool) (a : Act) (w : World) : Prop where
  ext : Ext W0 w
  size : a.tmps.size = a0.tmps.size
  defers : a.defers = a0.defers
  base : ∀ s : Nat, (∀ (j : Nat) (o : Oper), ops[j]? = some o → o.dst ≠ some s) → a.tmps[s]? = a0.tmps[s]?
  slot : ∀ (j : Nat) (o : Oper) (d : Nat), listed.getD j false = true → ops[j]? = some o → o.dst = some d → ∃ v, a.tmps[d]? = some v ∧ F j v w

def flowOK (ops : Array Oper) (n : Nat) : Bool :=
  (List.range ops.size).all fun j => match ops[j]? with
    | none => true
    | some o => (match o.dst with
      | some d => decide (d < n) && (List.range j).all (fun i => match ops[i]? with | some o' => !(o'.dst == some d) | none => true)
      | none => false) && o.after.toList.all (fun e => !(Region.binds .any e) || decide (e.on < j))
theorem flow_dst {ops : Array Oper} {n : Nat} (h : flowOK ops n = true) {j : Nat} {o : Oper} (hj : ops[j]? = some o) : ∃ d, o.dst = some d ∧ d < n ∧ (∀ i o', i < j → ops[i]? = some o' → o'.dst ≠ some d) ∧ ∀ e ∈ o.after.toList, Region.binds .any e = true → e.on < j := by
  unfold flowOK at h
  have hlt : j < ops.size := (Array.getElem?_eq_some_iff.1 hj).1
  have h1 := List.all_eq_true.1 h j (List.mem_range.2 hlt)
  rw [hj] at h1
  simp only [Bool.and_eq_true] at h1
  obtain ⟨h1, h2⟩ := h1
  cases hd : o.dst with
  | none => rw [hd] at h1; cases h1
  | some d =>
    rw [hd] at h1
    simp only [Bool.and_eq_true, decide_eq_true_eq] at h1
    refine ⟨d, rfl, h1.1, fun i o' hi ho' => ?_, fun e he hb => by have := List.all_eq_true.1 h2 e he; rw [hb] at this; simpa using this⟩
    have h3 := List.all_eq_true.1 h1.2 i (List.mem_range.2 hi)
    rw [ho'] at h3
    simpa using h3
theorem flow_apart {ops : Array Oper} {n : Nat} (h : flowOK ops n = true) {j i : Nat} {o o' : Oper} {d : Nat} (hj : ops[j]? = some o) (hi : ops[i]? = some o') (hd : o.dst = some d) (hd' : o'.dst = some d) : j = i := by
  rcases Nat.lt_trichotomy j i with q | q | q
  · obtain ⟨d2, e, _, h3, _⟩ := flow_dst h hi
    rw [hd'] at e; injection e with e; subst e
    exact absurd hd (h3 j o q hj)
  · exact q
  · obtain ⟨d2, e, _, h3, _⟩ := flow_dst h hj
    rw [hd] at e; injection e with e; subst e
    exact absurd hd' (h3 i o' q hi)
theorem Flow.put {W0 : World} {a0 : Act} {ops : Array Oper} {F : Nat → Value → World → Prop} {listed : Array Bool} {a : Act} {w w' : World} (hok : flowOK ops a0.tmps.size = true) (mono : ∀ j v w w', F j v w → Ext w w' → F j v w')
    (h : Flow W0 a0 ops F listed a w) (hs : listed.size = ops.size) {j : Nat} {o : Oper} (hj : ops[j]? = some o) {v : Value} (hv : F j v w') (hx : Ext w w') : Flow W0 a0 ops F (listed.setIfInBounds j true) (a.put o.dst v) w' := by
  obtain ⟨d, hd, hdn, -, -⟩ := flow_dst hok hj
  rw [hd]
  refine ⟨h.ext.trans hx, by simpa [Act.put] using h.size, h.defers, fun s hsn => ?_, fun i o' d' hl hi hd' => ?_⟩
  · show (a.tmps.setIfInBounds d v)[s]? = _
    rw [Array.getElem?_setIfInBounds_ne (fun e => hsn j o hj (by rw [hd, e]))]
    exact h.base s hsn
  · show ∃ v', (a.tmps.setIfInBounds d v)[d']? = some v' ∧ _
    by_cases e : j = i
    · subst e
      rw [hj] at hi; injection hi with hi; subst hi
      rw [hd] at hd'; injection hd' with hd'; subst hd'
      refine ⟨v, ?_, hv⟩
      rw [Array.getElem?_setIfInBounds_self_of_lt (by rw [h.size]; exact hdn)]
    · have hne : d ≠ d' := fun q => e (flow_apart hok hj hi hd (by rw [hd', q]))
      have hl' : listed.getD i false = true := by
        rw [Array.getD_eq_getD_getElem?, Array.getElem?_setIfInBounds_ne e] at hl
        rw [Array.getD_eq_getD_getElem?]; exact hl
      obtain ⟨v', h1, h2⟩ := h.slot i o' d' hl' hi hd'
      exact ⟨v', by rw [Array.getElem?_setIfInBounds_ne hne]; exact h1, mono _ _ _ _ h2 hx⟩

theorem ready_of {md : Region.Mode} {ops : Array Oper} {listed : Array Bool} {i : Nat} (h : i ∈ Region.ready md ops listed) : ∃ o, ops[i]? = some o ∧ ∀ e ∈ o.after.toList, Region.binds md e = true → listed.getD e.on false = true := by
  unfold Region.ready at h
  obtain ⟨h1, h2⟩ := List.mem_filter.1 h
  simp only [Bool.and_eq_true] at h2
  obtain ⟨-, h3⟩ := h2
  cases ho : ops[i]? with
  | none => rw [ho] at h3; cases h3
  | some o =>
    rw [ho] at h3
    simp only [Option.map_some, Option.getD_some] at h3
    refine ⟨o, rfl, fun e he hb => ?_⟩
    have := Array.all_eq_true'.1 h3 e (by simpa using he)
    simpa [hb] using this
theorem all_listed {ops : Array Oper} {n : Nat} (hok : flowOK ops n = true) {listed : Array Bool} (hs : listed.size = ops.size) (h : Region.ready .any ops listed = []) : ∀ (m j : Nat), j < m → j < ops.size → listed.getD j false = true
  | 0, j, h1, _ => by omega
  | m + 1, j, h1, h2 => by
    have ih := all_listed hok hs h m
    by_cases hl : listed.getD j false = true
    · exact hl
    · exfalso
      have hmem : j ∈ Region.ready .any ops listed := by
        unfold Region.ready
        refine List.mem_filter.2 ⟨List.mem_range.2 h2, ?_⟩
        have hj : ops[j]? = some ops[j] := Array.getElem?_eq_getElem h2
        obtain ⟨d, -, -, -, hb⟩ := flow_dst hok hj
        rw [hj]
        simp only [Bool.and_eq_true, Option.map_some, Option.getD_some]
        refine ⟨?_, Array.all_eq_true'.2 fun e he => ?_⟩
        · have h2' : j < listed.size := by omega
          simp only [Array.getD, h2', dif_pos] at hl ⊢
          simpa using hl
        · cases hbd : Region.binds .any e with
          | false => rfl
          | true =>
            have he' := hb e (by simpa using he) hbd
            rw [ih e.on (by omega) (by omega)]; rfl
      rw [h] at hmem; cases hmem

/-- The rule: each operation once. -/
theorem wp_flow {P : Program} {ops : Array Oper} {Q : Exit → Act → World → Prop} {id : Nat} {a0 : Act} {W0 : World} (F : Nat → Value → World → Prop) (hm : P.follows .mixedOrders = true) (hok : flowOK ops a0.tmps.size = true)
    (mono : ∀ j v w w', F j v w → Ext w w' → F j v w')
    (each : ∀ j o, ops[j]? = some o → ∀ listed a w, Flow W0 a0 ops F listed a w → (∀ e ∈ o.after.toList, Region.binds .any e = true → listed.getD e.on false = true) →
      Region.wanted o (yielded ops a.tmps) = true ∧ ∀ K : Act → World → Prop, (∀ v w', F j v w' → Ext w w' → K (a.put o.dst v) w') → Oper.wp P o a w K Q)
    (last : ∀ listed a w, Flow W0 a0 ops F listed a w → (∀ j, j < ops.size → listed.getD j false = true) → Q .normal a w) : (Code.region id ops true).wp P Q a0 W0 := by
  refine wp_region_any hm (wpAny_inv (fun listed a w => listed.size = ops.size ∧ Flow W0 a0 ops F listed a w) ?_ ?_ ops.size _ _ _ (by simp) ?_ ?_)
  · intro listed a w i hs hI hi
    obtain ⟨o, ho, hdep⟩ := ready_of hi
    obtain ⟨h1, h2⟩ := each i o ho listed a w hI.2 hdep
    refine wpOp_step' ho h1 (h2 _ fun v w' hv hx => ⟨by simpa using hs, hI.2.put hok mono hs ho hv hx⟩)
  · intro listed a w hI hr
    exact last _ _ _ hI.2 fun j hj => all_listed hok hI.1 hr (j + 1) j (Nat.lt_succ_self j) hj
  · rw [Array.toList_replicate]; simp
  · exact ⟨by simp, ⟨(Ext.refl W0).drew, rfl, rfl, fun s _ => rfl, fun j o d h _ _ => by
      rw [Array.getD_eq_getD_getElem?, Array.getElem?_replicate] at h
      split at h <;> cases h⟩⟩

/-! ## The rule with the operations in a list, each with its own fact -/
inductive AllFrom (E : Nat → Oper → Prop) : Nat → List Oper → Prop
  | nil {k : Nat} : AllFrom E k []
  | cons {k : Nat} {o : Oper} {l : List Oper} : E k o → AllFrom E (k + 1) l → AllFrom E k (o :: l)
theorem AllFrom.at_ {E : Nat → Oper → Prop} {k : Nat} {l : List Oper} (h : AllFrom E k l) : ∀ (j : Nat) (o : Oper), l[j]? = some o → E (k + j) o := by
  induction h with
  | nil => intro j o h; simp at h
  | cons h0 _ ih =>
    intro j o h
    cases j with
    | zero => simp at h; subst h; exact h0
    | succ j => have := ih j o (by simpa using h); rwa [show ∀ k : Nat, k + 1 + j = k + (j + 1) from fun k => by omega] at this
def nth {α : Type} : List α → Nat → α → α
  | [], _, d => d
  | x :: _, 0, _ => x
  | _ :: l, n + 1, d => nth l n d
abbrev Fact := Value → World → Prop
/-- The facts of the operations, in their order. -/
def facts (Fs : List Fact) (j : Nat) (v : Value) (w : World) : Prop := nth Fs j (fun _ _ => True) v w
def factsMono : List Fact → Prop
  | [] => True
  | f :: l => (∀ v w w', f v w → Ext w w' → f v w') ∧ factsMono l
theorem facts_mono : ∀ {Fs : List Fact}, factsMono Fs → ∀ j v w w', facts Fs j v w → Ext w w' → facts Fs j v w'
  | [], _, j, v, w, w', _, _ => by unfold facts nth; trivial
  | f :: l, h, 0, v, w, w', hv, hx => h.1 v w w' hv hx
  | f :: l, h, j + 1, v, w, w', hv, hx => facts_mono (Fs := l) h.2 j v w w' hv hx
abbrev isV (V : Value) : Fact := fun v _ => v = V
theorem isV_mono {V : Value} : ∀ (v : Value) (w w' : World), isV V v w → Ext w w' → isV V v w' := fun _ _ _ h _ => h
def dstIs (ops : Array Oper) (i d : Nat) : Bool := match ops[i]? with | some o => o.dst == some d | none => false
theorem dstIs_spec {ops : Array Oper} {i d : Nat} (h : dstIs ops i d = true) : ∃ o, ops[i]? = some o ∧ o.dst = some d := by
  unfold dstIs at h
  cases ho : ops[i]? with
  | none => rw [ho] at h; cases h
  | some o => rw [ho] at h; exact ⟨o, rfl, by simpa using h⟩
def freeSlot (ops : Array Oper) (s : Nat) : Bool := ops.all fun o => !(o.dst == some s)
theorem freeSlot_spec {ops : Array Oper} {s : Nat} (h : freeSlot ops s = true) : ∀ (j : Nat) (o : Oper), ops[j]? = some o → o.dst ≠ some s := fun j o ho => by
  have := (Array.all_eq_true_iff_forall_mem.1 h) o (Array.mem_of_getElem? ho)
  simpa using this
def waitsFor (o : Oper) (i : Nat) : Bool := o.after.any fun e => e.on == i && Region.binds .any e
theorem waitsFor_spec {o : Oper} {i : Nat} {listed : Array Bool} (h : waitsFor o i = true) (hd : ∀ e ∈ o.after.toList, Region.binds .any e = true → listed.getD e.on false = true) : listed.getD i false = true := by
  obtain ⟨e, he, h2⟩ := Array.any_eq_true'.1 h
  simp only [Bool.and_eq_true, beq_iff_eq] at h2
  rw [← h2.1]; exact hd e (by simpa using he) h2.2
theorem wanted_yes {ops : Array Oper} {o : Oper} {tmps : Array Value} (g : Nat) (b : Bool) (d : Nat) (hg : o.guard = some (g, b)) (hd : dstIs ops g d = true) (hs : tmps[d]? = some (.bool b)) : Region.wanted o (yielded ops tmps) = true := by
  obtain ⟨og, h1, h2⟩ := dstIs_spec hd
  unfold Region.wanted yielded
  rw [hg]; simp [h1, h2, hs]
theorem wanted_no {ops : Array Oper} {o : Oper} {tmps : Array Value} (g : Nat) (b : Bool) (d : Nat) (hg : o.guard = some (g, b)) (hd : dstIs ops g d = true) (hs : tmps[d]? = some (.bool (!b))) : Region.wanted o (yielded ops tmps) = false := by
  obtain ⟨og, h1, h2⟩ := dstIs_spec hd
  unfold Region.wanted yielded
  rw [hg]; cases b <;> simp [h1, h2, hs]
theorem wanted_free {ops : Array Oper} {o : Oper} {tmps : Array Value} (hg : o.guard = none) : Region.wanted o (yielded ops tmps) = true := by
  unfold Region.wanted; rw [hg]
/-- One operation of the region. -/
def StepOK (P : Program) (ops : Array Oper) (Q : Exit → Act → World → Prop) (W0 : World) (a0 : Act) (F : Nat → Value → World → Prop) (j : Nat) (o : Oper) : Prop :=
  ∀ (a : Act) (w : World), Ext W0 w →
    (∀ i d, waitsFor o i = true → dstIs ops i d = true → ∃ v, a.tmps[d]? = some v ∧ F i v w) →
    (∀ s, freeSlot ops s = true → a.tmps[s]? = a0.tmps[s]?) →
    (Region.wanted o (yielded ops a.tmps) = true ∧ ∀ K : Act → World → Prop, (∀ v w', F j v w' → Ext w w' → K (a.put o.dst v) w') → Oper.wp P o a w K Q) ∨ (Region.wanted o (yielded ops a.tmps) = false ∧ F j undef w)
theorem wpOp_skip' {P : Program} {ops : Array Oper} {Q : Exit → Act → World → Prop} {i : Nat} {o : Oper} {K : Act → World → Prop} {a : Act} {w : World} (ho : ops[i]? = some o) (h1 : Region.wanted o (yielded ops a.tmps) = false) (h2 : K (a.put o.dst undef) w) : wpOp P ops Q i K a w := by
  unfold wpOp
  rw [ho]
  show if Region.wanted o (yielded ops a.tmps) = true then _ else _
  rw [if_neg (by rw [h1]; decide)]; exact h2
theorem wp_flow2 {P : Program} {ops : Array Oper} {Q : Exit → Act → World → Prop} {id : Nat} {a0 : Act} {W0 : World} (Fs : List Fact) (hm : P.follows .mixedOrders = true) (hok : flowOK ops a0.tmps.size = true)
    (mono : factsMono Fs) (each : AllFrom (StepOK P ops Q W0 a0 (facts Fs)) 0 ops.toList)
    (last : ∀ a w, Ext W0 w → a.tmps.size = a0.tmps.size → a.defers = a0.defers → (∀ i d, dstIs ops i d = true → ∃ v, a.tmps[d]? = some v ∧ facts Fs i v w) → (∀ s, freeSlot ops s = true → a.tmps[s]? = a0.tmps[s]?) → Q .normal a w) : (Code.region id ops true).wp P Q a0 W0 := by
  refine wp_region_any hm (wpAny_inv (fun listed a w => listed.size = ops.size ∧ Flow W0 a0 ops (facts Fs) listed a w) ?_ ?_ ops.size _ _ _ (by simp) ?_ ?_)
  · intro listed a w i hs hI hi
    obtain ⟨o, ho, hdep⟩ := ready_of hi
    have hl : ops.toList[i]? = some o := by simpa using ho
    have hst := each.at_ i o hl
    rw [Nat.zero_add] at hst
    rcases hst a w hI.2.ext (fun i' d hw hd => by
        obtain ⟨o', h1, h2⟩ := dstIs_spec hd
        exact hI.2.slot i' o' d (waitsFor_spec hw hdep) h1 h2) (fun s h => hI.2.base s (freeSlot_spec h)) with ⟨h1, h2⟩ | ⟨h1, h2⟩
    · refine wpOp_step' ho h1 (h2 _ fun v w' hv hx => ⟨by simpa using hs, hI.2.put hok (facts_mono mono) hs ho hv hx⟩)
    · exact wpOp_skip' ho h1 ⟨by simpa using hs, hI.2.put hok (facts_mono mono) hs ho h2 (Ext.refl _)⟩
  · intro listed a w hI hr
    have hall := all_listed hok hI.1 hr
    refine last _ _ hI.2.ext hI.2.size hI.2.defers (fun i d hd => ?_) (fun s h => hI.2.base s (freeSlot_spec h))
    obtain ⟨o', h1, h2⟩ := dstIs_spec hd
    exact hI.2.slot i o' d (hall (i + 1) i (Nat.lt_succ_self i) (Array.getElem?_eq_some_iff.1 h1).1) h1 h2
  · rw [Array.toList_replicate]; simp
  · exact ⟨by simp, ⟨(Ext.refl W0).drew, rfl, rfl, fun s _ => rfl, fun j o d h _ _ => by
      rw [Array.getD_eq_getD_getElem?, Array.getElem?_replicate] at h
      split at h <;> cases h⟩⟩

/-! ## The same for the first m operations of a region; the state behind them is written out -/
def putAll : Act → List Oper → List Value → Act
  | a, o :: os, v :: vs => putAll (a.put o.dst v) os vs
  | a, _, _ => a
theorem Act.put_size (a : Act) (d : Option Tmp) (v : Value) : (a.put d v).tmps.size = a.tmps.size := by cases d <;> simp [Act.put]
theorem Act.put_defers' (a : Act) (d : Option Tmp) (v : Value) : (a.put d v).defers = a.defers := by cases d <;> rfl
theorem eq_putAll {a : Act} : ∀ {os : List Oper} {vs : List Value} {a0 : Act}, vs.length = os.length → a.tmps.size = a0.tmps.size → a.defers = a0.defers →
    (∀ s : Nat, (∀ o ∈ os, o.dst ≠ some s) → a.tmps[s]? = a0.tmps[s]?) → (∀ (j : Nat) (o : Oper) (d : Nat), os[j]? = some o → o.dst = some d → d < a0.tmps.size ∧ ∃ v, vs[j]? = some v ∧ a.tmps[d]? = some v) → a = putAll a0 os vs
  | [], [], a0, _, _, hd, hb, _ => by
    obtain ⟨t, d⟩ := a
    obtain ⟨t0, d0⟩ := a0
    simp only [putAll]
    have h1 : t = t0 := Array.ext_getElem? fun s => hb s (fun o h => by cases h)
    have h2 : d = d0 := hd
    rw [h1, h2]
  | o :: os, v :: vs, a0, hl, hsz, hd, hb, hs => by
    simp only [putAll]
    refine eq_putAll (by simpa using hl) (by rw [Act.put_size]; exact hsz) (by rw [Act.put_defers']; exact hd) (fun s h => ?_) (fun j o' d' hj hd' => ?_)
    · cases ho : o.dst with
      | none => exact hb s (fun o' h' => by
          rcases List.mem_cons.1 h' with rfl | h'
          · rw [ho]; simp
          · exact h o' h')
      | some d =>
        obtain ⟨h1, v', h2, h3⟩ := hs 0 o d (by simp) ho
        simp only [List.getElem?_cons_zero, Option.some.injEq] at h2
        subst h2
        by_cases e : d = s
        · subst e
          rw [h3]; simp [Act.put, Array.getElem?_setIfInBounds_self_of_lt h1]
        · rw [hb s (fun o' h' => by
            rcases List.mem_cons.1 h' with rfl | h'
            · rw [ho]; simpa using e
            · exact h o' h')]
          simp [Act.put, Array.getElem?_setIfInBounds_ne e]
    · obtain ⟨h1, v', h2, h3⟩ := hs (j + 1) o' d' (by simpa using hj) hd'
      exact ⟨by rw [Act.put_size]; exact h1, v', by simpa using h2, h3⟩
def ForFacts : List Fact → World → (List Value → Prop) → Prop
  | [], _, K => K []
  | f :: l, w, K => ∀ v, f v w → ForFacts l w (fun vs => K (v :: vs))
theorem forFacts_get {a : Act} {w : World} : ∀ {os : List Oper} {Fs : List Fact} {K : List Value → Prop}, Fs.length = os.length → ForFacts Fs w K →
    (∀ (j : Nat) (o : Oper), os[j]? = some o → ∃ d v, o.dst = some d ∧ a.tmps[d]? = some v ∧ facts Fs j v w) →
    ∃ vs : List Value, vs.length = os.length ∧ K vs ∧ ∀ (j : Nat) (o : Oper) (d : Nat), os[j]? = some o → o.dst = some d → ∃ v, vs[j]? = some v ∧ a.tmps[d]? = some v
  | [], [], K, _, hK, _ => ⟨[], rfl, hK, fun j o d h => by simp at h⟩
  | o :: os, f :: Fs, K, hl, hK, h => by
    obtain ⟨d, v, h1, h2, h3⟩ := h 0 o (by simp)
    obtain ⟨vs, g1, g2, g3⟩ := forFacts_get (by simpa using hl) (hK v h3) (fun j o' hj => h (j + 1) o' (by simpa using hj))
    refine ⟨v :: vs, by simpa using g1, g2, fun j o' d' hj hd => ?_⟩
    cases j with
    | zero =>
      simp only [List.getElem?_cons_zero, Option.some.injEq] at hj; subst hj
      rw [h1] at hd; injection hd with hd; subst hd
      exact ⟨v, by simp, h2⟩
    | succ j => simpa using g3 j o' d' (by simpa using hj) hd
/-- One operation of the front. -/
def StepOK3 (P : Program) (ops : Array Oper) (m : Nat) (Q : Exit → Act → World → Prop) (W0 : World) (a0 : Act) (F : Nat → Value → World → Prop) (j : Nat) (o : Oper) : Prop :=
  ∀ (a : Act) (w : World), Ext W0 w →
    (∀ i d, waitsFor o i = true → dstIs ops i d = true → ∃ v, a.tmps[d]? = some v ∧ F i v w) →
    (∀ s, freeSlot (ops.toList.take m).toArray s = true → a.tmps[s]? = a0.tmps[s]?) →
    (Region.wanted o (yielded ops a.tmps) = true ∧ ∀ K : Act → World → Prop, (∀ v w', F j v w' → Ext w w' → K (a.put o.dst v) w') → Oper.wp P o a w K Q) ∨ (Region.wanted o (yielded ops a.tmps) = false ∧ F j undef w)
/-- Each operation behind the first m waits for all of them. -/
def sufOK (ops : Array Oper) (m : Nat) : Bool := (List.range ops.size).all fun i => decide (i < m) || match ops[i]? with | some o => (List.range m).all (waitsFor o) | none => true
def preL (m n : Nat) : Array Bool := (List.replicate m true ++ List.replicate n false).toArray
theorem listed_pre {listed : Array Bool} {m n : Nat} (hs : listed.size = m + n) (h1 : ∀ j : Nat, j < m → listed.getD j false = true) (h2 : ∀ j : Nat, m ≤ j → listed.getD j false = false) : listed = preL m n := by
  refine Array.ext_getElem? fun j => ?_
  have e0 : (preL m n)[j]? = (List.replicate m true ++ List.replicate n false)[j]? := List.getElem?_toArray
  rw [e0, List.getElem?_append, List.length_replicate, List.getElem?_replicate, List.getElem?_replicate]
  by_cases hj : j < m
  · have := h1 j hj
    rw [if_pos hj, if_pos hj]
    have hlt : j < listed.size := by omega
    simp only [Array.getD, hlt, dif_pos] at this
    rw [Array.getElem?_eq_getElem hlt]; exact congrArg some this
  · rw [if_neg hj]
    by_cases hlt : j < listed.size
    · have := h2 j (by omega)
      simp only [Array.getD, hlt, dif_pos] at this
      rw [Array.getElem?_eq_getElem hlt, if_pos (by omega)]; exact congrArg some this
    · rw [Array.getElem?_eq_none (by omega), if_neg (by omega)]
theorem count_true_pre {listed : Array Bool} {m n : Nat} (hs : listed.size = m + n) (hc : listed.toList.count false ≤ n) (h2 : ∀ j : Nat, m ≤ j → listed.getD j false = false) : ∀ j : Nat, j < m → listed.getD j false = true := by
  intro j hj
  have hlt : j < listed.size := by omega
  have hl : listed.toList.length = m + n := by simpa using hs
  have e : listed.toList = listed.toList.take m ++ listed.toList.drop m := (List.take_append_drop m _).symm
  have hd : (listed.toList.drop m).count false = n := by
    have : ∀ x ∈ listed.toList.drop m, x = false := by
      intro x hx
      obtain ⟨k, hk, rfl⟩ := List.mem_iff_getElem.1 hx
      rw [List.getElem_drop]
      have hk' : m + k < listed.size := by simp only [List.length_drop, Array.length_toList] at hk; omega
      have := h2 (m + k) (by omega)
      simpa [Array.getD, hk'] using this
    rw [List.count_eq_length.2 (fun x hx => (this x hx).symm)]; simp; omega
  rw [e, List.count_append, hd] at hc
  have h0 : (listed.toList.take m).count false = 0 := by omega
  have hn := List.count_eq_zero.1 h0
  have hx : listed[j] = true := by
    cases hh : listed[j] with
    | true => rfl
    | false => exact absurd (List.mem_iff_getElem.2 ⟨j, by simp; omega, by rw [List.getElem_take]; simpa using hh⟩) hn
  simp [Array.getD, hlt, hx]
theorem wpAny_inv_pre {P : Program} {ops : Array Oper} {Q : Exit → Act → World → Prop} {m n : Nat} (hsz : ops.size = m + n) (hsuf : sufOK ops m = true) (I : Array Bool → Act → World → Prop)
    (step : ∀ listed a w i, listed.size = ops.size → I listed a w → i < m → i ∈ Region.ready .any ops listed → wpOp P ops Q i (I (listed.setIfInBounds i true)) a w)
    (ready : ∀ listed a w, listed.size = ops.size → I listed a w → Region.ready .any ops listed = [] → ∀ j : Nat, j < m → listed.getD j false = true)
    (rest : ∀ a w, I (preL m n) a w → wpAny P .any ops Q n (preL m n) a w) :
    ∀ (k : Nat) (listed : Array Bool) (a : Act) (w : World), listed.size = ops.size → listed.toList.count false = n + k → (∀ j : Nat, m ≤ j → listed.getD j false = false) → I listed a w → wpAny P .any ops Q (n + k) listed a w
  | 0, listed, a, w, hs, hc, h2, hI => by
    have := listed_pre (m := m) (n := n) (by omega) (count_true_pre (m := m) (n := n) (by omega) (by omega) h2) h2
    subst this
    exact rest a w hI
  | k + 1, listed, a, w, hs, hc, h2, hI => by
    have hnot : ¬ ∀ j : Nat, j < m → listed.getD j false = true := by
      intro h
      have e := listed_pre (m := m) (n := n) (by omega) h h2
      rw [e] at hc
      simp [preL, List.count_append, List.count_replicate] at hc
    show wpAny P .any ops Q ((n + k) + 1) listed a w
    refine ⟨fun hr => absurd (ready listed a w hs hI hr) hnot, fun i hi => ?_⟩
    have hi2 := hi
    have him : i < m := by
      rcases Nat.lt_or_ge i m with q | q
      · exact q
      · exfalso; apply hnot
        obtain ⟨o, ho, hdep⟩ := ready_of hi
        have h3 := List.all_eq_true.1 hsuf i (List.mem_range.2 (Array.getElem?_eq_some_iff.1 ho).1)
        rw [ho] at h3
        simp only [Bool.or_eq_true, decide_eq_true_eq] at h3
        rcases h3 with h3 | h3
        · omega
        · intro j hj
          exact waitsFor_spec (List.all_eq_true.1 h3 j (List.mem_range.2 hj)) hdep
    refine wpOp_mono (fun a' w' h => wpAny_inv_pre hsz hsuf I step ready rest k _ a' w' (by simpa using hs) ?_ ?_ h) (step listed a w i hs hI him hi)
    · have hm : i < ops.size ∧ listed.getD i true = false := by
        unfold Region.ready at hi2
        obtain ⟨g1, g2⟩ := List.mem_filter.1 hi2
        refine ⟨List.mem_range.1 g1, ?_⟩
        simp only [Bool.and_eq_true, Bool.not_eq_true'] at g2
        exact g2.1
      obtain ⟨g1, g2⟩ := hm
      have hlt : i < listed.size := by omega
      have hx : listed.toList[i]'(by simpa using hlt) = false := by simpa [Array.getD, hlt] using g2
      have := List.count_set (a := true) (b := false) (l := listed.toList) (i := i) (by simpa using hlt)
      simp only [Array.toList_setIfInBounds]
      have hpos : 0 < listed.toList.count false := List.count_pos_iff.2 (by rw [← hx]; exact List.getElem_mem _)
      rw [this, hx]
      have e1 : (if (false == false) = true then 1 else 0) = 1 := rfl
      have e2 : (if (true == false) = true then 1 else 0) = 0 := rfl
      rw [e1, e2]; omega
    · intro j hj
      rw [getD_set_ne false (by omega)]; exact h2 j hj
theorem dstIs_take {l : List Oper} {m i d : Nat} (h : i < m) : dstIs (l.take m).toArray i d = dstIs l.toArray i d := by
  unfold dstIs
  rw [List.getElem?_toArray, List.getElem?_toArray, List.getElem?_take_of_lt h]
/-- THE RULE. The first m operations in whatever order, each by its own fact; then the rest, from a state that is written out. -/
theorem wp_flow3 {P : Program} {l : List Oper} {Q : Exit → Act → World → Prop} {id : Nat} {a0 : Act} {W0 : World} (m n : Nat) (Fs : List Fact) (hm : P.follows .mixedOrders = true) (hln : l.length = m + n) (hfl : Fs.length = m)
    (hok : flowOK (l.take m).toArray a0.tmps.size = true) (hsuf : sufOK l.toArray m = true)
    (mono : factsMono Fs) (each : AllFrom (StepOK3 P l.toArray m Q W0 a0 (facts Fs)) 0 (l.take m))
    (rest : ∀ w, Ext W0 w → ForFacts Fs w (fun vs => wpAny P .any l.toArray Q n (preL m n) (putAll a0 (l.take m) vs) w)) : (Code.region id l.toArray true).wp P Q a0 W0 := by
  have hsz : l.toArray.size = m + n := by simpa using hln
  have hlt : (l.take m).length = m := by simp; omega
  have hpo : ∀ i o, i < m → l.toArray[i]? = some o → (l.take m).toArray[i]? = some o := fun i o hi ho => by
    rw [List.getElem?_toArray, List.getElem?_take_of_lt hi]; simpa using ho
  have hdep : ∀ i o e, i < m → l.toArray[i]? = some o → e ∈ o.after.toList → Region.binds .any e = true → e.on < i := fun i o e hi ho he hbd => by
    obtain ⟨d, -, -, -, h4⟩ := flow_dst hok (hpo i o hi ho)
    exact h4 e he hbd
  refine wp_region_any hm ?_
  have key := wpAny_inv_pre (P := P) (Q := Q) hsz hsuf (fun listed a w => listed.size = m + n ∧ Flow W0 a0 (l.take m).toArray (facts Fs) (listed.extract 0 m) a w) ?_ ?_ ?_ m (Array.replicate l.toArray.size false) a0 { W0 with drawn := W0.drawn + 1 } (by simp) ?_ ?_ ?_
  · rw [Nat.add_comm] at key; rw [← hsz] at key; exact key
  · rintro listed a w i hs ⟨hI0, hI⟩ him hi
    obtain ⟨o, ho, hd⟩ := ready_of hi
    have ho' := hpo i o him ho
    have hl : (l.take m)[i]? = some o := by simpa using ho'
    have hst := each.at_ i o hl
    rw [Nat.zero_add] at hst
    have hext : ∀ j : Nat, j < m → (listed.extract 0 m).getD j false = listed.getD j false := fun j hj => by
      rw [Array.getD_eq_getD_getElem?, Array.getD_eq_getD_getElem?, Array.getElem?_extract, if_pos (by omega), Nat.zero_add]
    have hset : (listed.setIfInBounds i true).extract 0 m = (listed.extract 0 m).setIfInBounds i true := by
      refine Array.ext_getElem? fun j => ?_
      rw [Array.getElem?_extract]
      by_cases hj : j < m
      · rw [if_pos (by simp; omega), Nat.zero_add]
        by_cases e : i = j
        · subst e
          rw [Array.getElem?_setIfInBounds_self_of_lt (by omega), Array.getElem?_setIfInBounds_self_of_lt (by simp; omega)]
        · rw [Array.getElem?_setIfInBounds_ne e, Array.getElem?_setIfInBounds_ne e, Array.getElem?_extract, if_pos (by omega), Nat.zero_add]
      · rw [if_neg (by omega), Array.getElem?_eq_none (by simp; omega)]
    rcases hst a w hI.ext (fun i' d hw hd' => by
        obtain ⟨o', h1, h2⟩ := dstIs_spec hd'
        have hi' : i' < i := by
          obtain ⟨e, he, h2⟩ := Array.any_eq_true'.1 hw
          simp only [Bool.and_eq_true, beq_iff_eq] at h2
          rw [← h2.1]; exact hdep i o e him ho (by simpa using he) h2.2
        refine hI.slot i' o' d ?_ (hpo i' o' (by omega) h1) h2
        rw [hext i' (by omega)]; exact waitsFor_spec hw hd) (fun s h => hI.base s (freeSlot_spec h)) with ⟨h1, h2⟩ | ⟨h1, h2⟩
    · refine wpOp_step' ho h1 (h2 _ fun v w' hv hx => ⟨by simpa using hI0, ?_⟩)
      rw [hset]
      exact hI.put hok (facts_mono mono) (by simp; omega) ho' hv hx
    · refine wpOp_skip' ho h1 ⟨by simpa using hI0, ?_⟩
      rw [hset]
      exact hI.put hok (facts_mono mono) (by simp; omega) ho' h2 (Ext.refl _)
  · rintro listed a w hs ⟨hI0, hI⟩ hr
    have : ∀ (k j : Nat), j < k → j < m → listed.getD j false = true := by
      intro k
      induction k with
      | zero => intro j h; omega
      | succ k ih =>
        intro j h1 h2
        by_cases hl : listed.getD j false = true
        · exact hl
        · exfalso
          have hj : l.toArray[j]? = some l.toArray[j] := Array.getElem?_eq_getElem (by omega)
          have hmem : j ∈ Region.ready .any l.toArray listed := by
            unfold Region.ready
            refine List.mem_filter.2 ⟨List.mem_range.2 (by omega), ?_⟩
            rw [hj]
            simp only [Bool.and_eq_true, Option.map_some, Option.getD_some]
            refine ⟨?_, Array.all_eq_true'.2 fun e he => ?_⟩
            · have h2' : j < listed.size := by omega
              simp only [Array.getD, h2', dif_pos] at hl ⊢
              simpa using hl
            · cases hbd : Region.binds .any e with
              | false => rfl
              | true =>
                have he' := hdep j _ e h2 hj (by simpa using he) hbd
                rw [ih e.on (by omega) (by omega)]; rfl
          rw [hr] at hmem; cases hmem
    exact fun j hj => this (j + 1) j (Nat.lt_succ_self j) hj
  · rintro a w ⟨-, hI⟩
    have hx := rest w hI.ext
    obtain ⟨vs, g1, g2, g3⟩ := forFacts_get (a := a) (os := l.take m) (by rw [hfl, hlt]) hx (fun j o hj => by
      obtain ⟨d, h1, h2, -, -⟩ := flow_dst hok (by simpa using hj)
      have hjm : j < m := by have := (List.getElem?_eq_some_iff.1 hj).1; omega
      obtain ⟨v, k1, k2⟩ := hI.slot j o d (by
        rw [Array.getD_eq_getD_getElem?, Array.getElem?_extract]
        rw [if_pos (by simp [preL]; omega)]
        simp [preL, List.getElem?_append, hjm]) (by simpa using hj) h1
      exact ⟨d, v, h1, k1, k2⟩)
    have ha : a = putAll a0 (l.take m) vs := eq_putAll g1 hI.size hI.defers (fun s hs => hI.base s (fun j o ho => hs o (by
        have : (l.take m)[j]? = some o := by simpa using ho
        exact List.mem_of_getElem? this))) (fun j o d hj hd => by
      obtain ⟨d', h1, h2, -, -⟩ := flow_dst hok (j := j) (by simpa using hj)
      rw [hd] at h1; injection h1 with h1; subst h1
      exact ⟨h2, g3 j o d hj hd⟩)
    rw [ha]; exact g2
  · rw [Array.toList_replicate, List.count_replicate]; simp; omega
  · intro j hj
    rw [Array.getD_eq_getD_getElem?, Array.getElem?_replicate]
    split <;> rfl
  · exact ⟨by simpa using hsz, ⟨(Ext.refl W0).drew, rfl, rfl, fun s _ => rfl, fun j o d h _ _ => by
      rw [Array.getD_eq_getD_getElem?, Array.getElem?_extract] at h
      split at h
      · rw [Array.getElem?_replicate] at h; split at h <;> cases h
      · cases h⟩⟩
end Go.Proofs.Ytjagbnaacfhokaa
