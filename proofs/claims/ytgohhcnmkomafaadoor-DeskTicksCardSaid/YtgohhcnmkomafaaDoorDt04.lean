/- Nets, in plain Lean: what each function of package net computes. -/
import Derived.Test.YtgohhcnmkomafaaDoorChecked
import Derived.Test.YtgohhcnmkomafaaDoorDt02
import Derived.Test.YtgohhcnmkomafaaDoorDt03
import Derived.Test.YtgohhcnmkomafaaDoorDt01
import Derived.Deep.RegionHeld3
import Derived.Deep.DrawnRows
import Derived.RegionTactic
import Derived.ChangeAlike
import Derived.StillTailTactics
namespace Go.Proofs.YtgohhcnmkomafaaDoor
set_option linter.unusedVariables false
set_option linter.unusedSimpArgs false
set_option linter.unusedVariables false
set_option linter.unusedSimpArgs false
structure GateM where
  kind : Int
  num : Int
  args : List Int
  deriving DecidableEq
structure StoreM where
  fst : Bool
  next : Int
  deriving DecidableEq
structure NetM where
  ins : Int
  gates : List GateM
  regs : List StoreM
  outs : List Int
  deriving DecidableEq
def formM (N : NetM) (g : GateM) : Bool :=
  let most : Int := if g.kind = 2 then N.ins - 1 else if g.kind = 3 then (N.regs.length : Int) - 1 else 0
  let args : Bool := if g.kind = 4 ∨ g.kind = 5 then true else if g.kind = 6 then decide (g.args.length = 1) else decide (g.args.length = 0)
  args && decide (0 ≤ g.num) && decide (g.num ≤ most)
def manyA (g : GateM) : Bool := decide (16 < g.args.length)
def badPlace (n : Nat) (k : Int) : Bool := decide (k < 0) || decide ((n : Int) ≤ k)
def badGK (g : GateM) : Bool := decide (g.kind < 0) || decide (6 < g.kind)
def tooMany (N : NetM) : Bool := decide (3 < N.ins) || decide (200 < N.gates.length) || decide (20 < N.regs.length) || decide (3 < N.outs.length)
def namedM (N : NetM) : List Int := N.outs ++ N.regs.map (·.next) ++ N.gates.flatMap (·.args)
/-- Check: the first error. -/
def checkN (N : NetM) : Int :=
  if tooMany N then 2 else if N.gates.any manyA then 2 else if N.ins < 0 then 3 else if (namedM N).any (badPlace N.gates.length) then 3
  else if N.gates.any badGK then 4 else if N.gates.all (formM N) then 0 else 1
end Go.Proofs.YtgohhcnmkomafaaDoor
/- How a net lies in memory; must, and what is left by a panic. -/
namespace Go.Proofs.YtgohhcnmkomafaaDoor
set_option linter.unusedVariables false
set_option linter.unusedSimpArgs false
open Go.RowKit
/-- A slice of gates, three cells each. -/
def SlG (w : World) (A : Option Addr) (n : Nat) (gs : List GateM) : Prop :=
  gs.length = n ∧ ∀ k g, gs[k]? = some g → ∃ b off A' m c, A = some ⟨b, off, none⟩ ∧ w.cell? ⟨b, off + k * 3, none⟩ = some (I g.kind) ∧ w.cell? ⟨b, off + k * 3 + 1, none⟩ = some (I g.num) ∧
    w.cell? ⟨b, off + k * 3 + 2, none⟩ = some (.slice A' m c) ∧ Sl w A' m (g.args.map I) ∧ m ≤ c ∧ c ≤ maxLen
abbrev RB (r : StoreM) : Value := Bv r.fst
abbrev RN (r : StoreM) : Value := I r.next
abbrev SlR := Sl2 RB RN
theorem SlG.keep {w w' : World} {A : Option Addr} {n : Nat} {gs : List GateM} (h : SlG w A n gs) (hk : Keeps w w') : SlG w' A n gs :=
  ⟨h.1, fun k g hg => let ⟨b, o, A', m, c, e, h0, h1, h2, h3, h4, h5⟩ := h.2 k g hg; ⟨b, o, A', m, c, e, hk _ _ h0, hk _ _ h1, hk _ _ h2, h3.keep hk, h4, h5⟩⟩
theorem SlG.next {w : World} {A : Option Addr} {n : Nat} {gs : List GateM} (h : SlG w A n gs) {k : Nat} (hk : k < n) :
    ∃ b off A' m c g, A = some ⟨b, off, none⟩ ∧ w.cell? ⟨b, off + k * 3, none⟩ = some (I g.kind) ∧ w.cell? ⟨b, off + k * 3 + 1, none⟩ = some (I g.num) ∧
    w.cell? ⟨b, off + k * 3 + 2, none⟩ = some (.slice A' m c) ∧ Sl w A' m (g.args.map I) ∧ m ≤ c ∧ c ≤ maxLen ∧ gs.drop k = g :: gs.drop (k + 1) ∧ gs[k]? = some g := by
  have hl : k < gs.length := by have := h.1; omega
  obtain ⟨b, off, A', m, c, e, r⟩ := h.2 k gs[k] (List.getElem?_eq_getElem hl)
  exact ⟨b, off, A', m, c, gs[k], e, r.1, r.2.1, r.2.2.1, r.2.2.2.1, r.2.2.2.2.1, r.2.2.2.2.2, List.drop_eq_getElem_cons hl, List.getElem?_eq_getElem hl⟩
theorem SlG.drop_end {w : World} {A : Option Addr} {n : Nat} {gs : List GateM} (h : SlG w A n gs) {k : Nat} (hk : ¬ k < n) : gs.drop k = [] := by
  have := h.1; exact List.drop_eq_nil_of_le (by omega)
/-- The four cells of a net that reads as N. -/
structure NetC (w : World) (i : Int) (GA : Option Addr) (gn gc : Nat) (RA : Option Addr) (rn rc : Nat) (OA : Option Addr) (on oc : Nat) (N : NetM) : Prop where
  ins : i = N.ins
  gates : SlG w GA gn N.gates
  regs : SlR w RA rn N.regs
  outs : Sl w OA on (N.outs.map I)
  gl : gn ≤ gc ∧ gc ≤ maxLen
  rl : rn ≤ rc ∧ rc ≤ maxLen
  ol : on ≤ oc ∧ oc ≤ maxLen
theorem NetC.keep {w w' : World} {i : Int} {GA : Option Addr} {gn gc : Nat} {RA : Option Addr} {rn rc : Nat} {OA : Option Addr} {on oc : Nat} {N : NetM} (h : NetC w i GA gn gc RA rn rc OA on oc N) (hk : Keeps w w') : NetC w' i GA gn gc RA rn rc OA on oc N :=
  ⟨h.ins, h.gates.keep hk, h.regs.keep hk, h.outs.keep hk, h.gl, h.rl, h.ol⟩
/-- A net laid in a block of its own. -/
def NetBox (w : World) (b : Nat) (i : Int) (GA : Option Addr) (gn gc : Nat) (RA : Option Addr) (rn rc : Nat) (OA : Option Addr) (on oc : Nat) : Prop :=
  w.cell? ⟨b, 0, none⟩ = some (I i) ∧ w.cell? ⟨b, 1, none⟩ = some (.slice GA gn gc) ∧ w.cell? ⟨b, 2, none⟩ = some (.slice RA rn rc) ∧ w.cell? ⟨b, 3, none⟩ = some (.slice OA on oc)
theorem NetBox.keep {w w' : World} {b : Nat} {i : Int} {GA : Option Addr} {gn gc : Nat} {RA : Option Addr} {rn rc : Nat} {OA : Option Addr} {on oc : Nat} (h : NetBox w b i GA gn gc RA rn rc OA on oc) (hk : Keeps w w') : NetBox w' b i GA gn gc RA rn rc OA on oc :=
  ⟨hk _ _ h.1, hk _ _ h.2.1, hk _ _ h.2.2.1, hk _ _ h.2.2.2⟩
theorem NetBox.new (w : World) (i : Int) (GA : Option Addr) (gn gc : Nat) (RA : Option Addr) (rn rc : Nat) (OA : Option Addr) (on oc : Nat) (T : TypeId) : NetBox (w.alloc (.cells #[I i, .slice GA gn gc, .slice RA rn rc, .slice OA on oc] T)) w.heap.size i GA gn gc RA rn rc OA on oc :=
  ⟨by rw [World.cell?_alloc_new]; rfl, by rw [World.cell?_alloc_new]; rfl, by rw [World.cell?_alloc_new]; rfl, by rw [World.cell?_alloc_new]; rfl⟩
def indexB (v : Bool) : List Bool → Int → Int
  | [], _ => -1
  | x :: l, k => if x = v then k else indexB v l (k + 1)
theorem indexB_lo (v : Bool) (l : List Bool) : ∀ k : Int, 0 ≤ k → decide (0 ≤ indexB v l k) = l.contains v := by
  induction l with
  | nil => intro k _; simp [indexB]
  | cons x l ih =>
    intro k hk
    by_cases h : x = v
    · subst h; simp [indexB, hk]
    · have h' : ¬ v = x := fun e => h e.symm
      simp only [indexB, if_neg h, ih (k + 1) (by omega), List.contains_cons]
      simp [h']
theorem indexBool_any (A : Option Addr) (n c : Nat) (xs : List Bool) (v : Bool) (w : World) (h : Sl w A n (xs.map Bv)) (hn : n ≤ maxLen) :
    Calls Tryd.prog 67 #[.slice A n c, Bv v] w fun e w' => e = .returned (I (indexB v xs 0)) ∧ w = w' := by
  unfold maxLen at hn
  have H := Lib.hid h; clear h
  go_enter Tryd.func67, Tryd.ntmps67
  go_wp2
  go_loop [8] (fun i => ∃ (k : Nat), k ≤ n ∧ i = .int .i64 k ∧ indexB v (xs.drop k) k = indexB v xs 0) (fun i => n - (intOf i).toNat)
  case atStart => exact ⟨0, Nat.zero_le _, rfl, rfl⟩
  case round =>
    obtain ⟨k, hk, rfl, hM⟩ := hrel
    by_cases hlt : k < n
    · obtain ⟨b, off, x, rfl, hc, hd⟩ := H.out.next hlt
      rw [hd, indexB] at hM
      have HM := Lib.hid hM; clear hM hd
      by_cases hx : x = v
      · subst hx
        go_wp2
        go_ret; exact ⟨ret_int (by rw [← HM.out]; simp), rfl⟩
      · have g : (v == x) = false := by simpa using fun e => hx (Eq.symm e)
        have HX := Lib.hid hx; clear hx
        go_wp2
        go_round
        case rel => exact ⟨k + 1, by omega, by go_num, by rw [← HM.out, if_neg HX.out]; simp⟩
        case measure => simp [intOf]; omega
    · rw [H.out.drop_end hlt, indexB] at hM
      have HM := Lib.hid hM; clear hM
      go_wp2
      go_ret; exact ⟨ret_int HM.out, rfl⟩
theorem containsBool_any (A : Option Addr) (n c : Nat) (xs : List Bool) (v : Bool) (w : World) (h : Sl w A n (xs.map Bv)) (hn : n ≤ maxLen) :
    Calls Tryd.prog 55 #[.slice A n c, Bv v] w fun e w' => e = .returned (.bool (xs.contains v)) ∧ w = w' := by
  have H := Lib.hid h; clear h
  have HM := Lib.hid (indexB_lo v xs 0 (Int.le_refl _))
  go_enter Tryd.func55, Tryd.ntmps55
  go_wp2_with fail
  refine (indexBool_any A n c xs v w H.out hn).mono ?_; rintro e w' ⟨rfl, rfl⟩
  go_wp2
  go_ret; exact ⟨ret_bool HM.out, rfl⟩
end Go.Proofs.YtgohhcnmkomafaaDoor
/- The walker of package walk: how it lies in memory; there, wait, some, Fresh. -/
namespace Go.Proofs.YtgohhcnmkomafaaDoor
set_option linter.unusedVariables false
set_option linter.unusedSimpArgs false
open Go.RowKit
/-- All that was there is as it was, but for two blocks; new memory may have come. -/
structure Off (g1 g2 : Nat) (w w' : World) : Prop where
  os : w'.os = w.os
  tape : w'.tape = w.tape
  output : w'.output = w.output
  size : w.heap.size ≤ w'.heap.size
  block : ∀ k, k < w.heap.size → k ≠ g1 → k ≠ g2 → w'.heap[k]? = w.heap[k]?
section
variable {g1 g2 : Nat} {a b c : World}
theorem Off.refl (g1 g2 : Nat) (w : World) : Off g1 g2 w w := ⟨rfl, rfl, rfl, Nat.le_refl _, fun _ _ _ _ => rfl⟩
theorem Off.trans (h : Off g1 g2 a b) (k : Off g1 g2 b c) : Off g1 g2 a c :=
  ⟨k.os.trans h.os, k.tape.trans h.tape, k.output.trans h.output, Nat.le_trans h.size k.size, fun i hi h1 h2 => (k.block i (Nat.lt_of_lt_of_le hi h.size) h1 h2).trans (h.block i hi h1 h2)⟩
theorem Off.of_ext (h : Ext a b) : Off g1 g2 a b := ⟨h.os, h.tape, h.output, h.size, fun i hi _ _ => h.block i hi⟩
theorem Off.alloc (h : Off g1 g2 a b) (o : Obj) : Off g1 g2 a (b.alloc o) := h.trans (.of_ext ((Ext.refl b).alloc o))
theorem Off.drewN (h : Off g1 g2 a b) (n : Nat) : Off g1 g2 a (b.drewN n) := h.trans (.of_ext ((Ext.refl b).drewN n))
theorem Off.drew (h : Off g1 g2 a b) : Off g1 g2 a b.drew := h.trans (.of_ext ((Ext.refl b).drew))
theorem Off.set1 (h : Off g1 g2 a b) (j : Nat) (v : Value) : Off g1 g2 a (b.setCell ⟨g1, j, none⟩ v) :=
  h.trans ⟨rfl, rfl, rfl, by simp, fun i _ h1 _ => heap_setCell_other b ⟨g1, j, none⟩ i v h1⟩
theorem Off.set2 (h : Off g1 g2 a b) (j : Nat) (v : Value) : Off g1 g2 a (b.setCell ⟨g2, j, none⟩ v) :=
  h.trans ⟨rfl, rfl, rfl, by simp, fun i _ _ h2 => heap_setCell_other b ⟨g2, j, none⟩ i v h2⟩
theorem Off.cell (h : Off g1 g2 a b) {p : Addr} {u : Value} (hc : a.cell? p = some u) (h1 : p.block ≠ g1) (h2 : p.block ≠ g2) : b.cell? p = some u :=
  (World.cell?_of_block (h.block p.block (lt_of_cell hc) h1 h2)).trans hc
theorem Off.free (h : Off g1 g2 a b) {p : Addr} {u : Value} (hc : a.cell? p = some u) (h1 : p.block ≠ g1) (h2 : p.block ≠ g2) : b.frozen? p = a.frozen? p :=
  World.frozen?_of_block (h.block p.block (lt_of_cell hc) h1 h2)
theorem Off.ext {w0 : World} (h : Off g1 g2 a b) (e : Ext w0 a) (h1 : w0.heap.size ≤ g1) (h2 : w0.heap.size ≤ g2) : Ext w0 b :=
  ⟨h.os.trans e.os, h.tape.trans e.tape, h.output.trans e.output, Nat.le_trans e.size h.size, fun i hi => (h.block i (Nat.lt_of_lt_of_le hi e.size) (by omega) (by omega)).trans (e.block i hi)⟩
end
/-- The walker in memory, and the state of its next rest. -/
structure WSt (w0 : World) (b g1 g2 : Nat) (PA : Option Addr) (n pc : Nat) (fr : Bool) (WA : Option Addr) (wc : Nat) (OA : Option Addr) (oc : Nat) (ins : Int) (wr : World) (s : StM) : Prop where
  ext : Ext w0 wr
  hb : w0.heap.size ≤ b
  h1 : w0.heap.size ≤ g1
  h2 : w0.heap.size ≤ g2
  b1 : b ≠ g1
  b2 : b ≠ g2
  g12 : g1 ≠ g2
  c0 : wr.cell? ⟨b, 0, none⟩ = some (.slice PA n pc)
  c1 : wr.cell? ⟨b, 1, none⟩ = some (Bv fr)
  c2 : wr.cell? ⟨b, 2, none⟩ = some (.slice WA n wc)
  c3 : wr.cell? ⟨b, 3, none⟩ = some (.slice OA 3 oc)
  c4 : wr.cell? ⟨b, 4, none⟩ = some (Bv false)
  c5 : wr.cell? ⟨b, 5, none⟩ = some (.slice (some ⟨g1, 0, none⟩) n n)
  c6 : wr.cell? ⟨b, 6, none⟩ = some (.slice (some ⟨g2, 0, none⟩) 3 3)
  c7 : wr.cell? ⟨b, 7, none⟩ = some (I ins)
  W : wr.ownsRow w0.heap.size 4 1 (.slice (some ⟨g1, 0, none⟩) n n) n (s.W.map Bv)
  O : wr.ownsRow w0.heap.size 4 1 (.slice (some ⟨g2, 0, none⟩) 3 3) 3 (s.O.map Bv)
section
variable {w0 : World} {b g1 g2 : Nat} {PA : Option Addr} {n pc : Nat} {fr : Bool} {WA : Option Addr} {wc : Nat} {OA : Option Addr} {oc : Nat} {ins : Int} {wr w' : World} {s s' : StM}
theorem WSt.off (h : WSt w0 b g1 g2 PA n pc fr WA wc OA oc ins wr s) (k : Off g1 g2 wr w') (hW : w'.ownsRow w0.heap.size 4 1 (.slice (some ⟨g1, 0, none⟩) n n) n (s'.W.map Bv)) (hO : w'.ownsRow w0.heap.size 4 1 (.slice (some ⟨g2, 0, none⟩) 3 3) 3 (s'.O.map Bv)) :
    WSt w0 b g1 g2 PA n pc fr WA wc OA oc ins w' s' :=
  ⟨k.ext h.ext h.h1 h.h2, h.hb, h.h1, h.h2, h.b1, h.b2, h.g12, k.cell h.c0 h.b1 h.b2, k.cell h.c1 h.b1 h.b2, k.cell h.c2 h.b1 h.b2, k.cell h.c3 h.b1 h.b2, k.cell h.c4 h.b1 h.b2, k.cell h.c5 h.b1 h.b2, k.cell h.c6 h.b1 h.b2, k.cell h.c7 h.b1 h.b2, hW, hO⟩
theorem WSt.more (h : WSt w0 b g1 g2 PA n pc fr WA wc OA oc ins wr s) (k : Ext wr w') : WSt w0 b g1 g2 PA n pc fr WA wc OA oc ins w' s :=
  h.off (.of_ext k) (own_ext h.W k) (own_ext h.O k)
/-- A place of the next waits is written. -/
theorem WSt.setW (h : WSt w0 b g1 g2 PA n pc fr WA wc OA oc ins wr s) (k : Nat) : WSt w0 b g1 g2 PA n pc fr WA wc OA oc ins (wr.setCell ⟨g1, k, none⟩ (Bv true)) (waitSt s k) :=
  h.off ((Off.refl g1 g2 wr).set1 k _) (by have := (h.W.stored k (Bv true)).1; simpa [waitSt, List.map_set] using this) (own_other h.O (fun e => h.g12 (Option.some.inj e).symm))
theorem WSt.setO (h : WSt w0 b g1 g2 PA n pc fr WA wc OA oc ins wr s) (k : Nat) : WSt w0 b g1 g2 PA n pc fr WA wc OA oc ins (wr.setCell ⟨g2, k, none⟩ (Bv true)) (emitSt s k) :=
  h.off ((Off.refl g1 g2 wr).set2 k _) (own_other h.W (fun e => h.g12 (Option.some.inj e))) (by have := (h.O.stored k (Bv true)).1; simpa [emitSt, List.map_set] using this)
end
section
variable (w0 : World) (b g1 g2 : Nat) (PA : Option Addr) (n pc : Nat) (fr : Bool) (WA : Option Addr) (wc : Nat) (OA : Option Addr) (oc : Nat) (ins : Int)
set_option maxHeartbeats 2000000 in
theorem wthere_any (wr : World) (s : StM) (h : WSt w0 b g1 g2 PA n pc fr WA wc OA oc ins wr s) (h0 : 0 ≤ ins) (h8 : ins < 8) (g : Int) (g0 : 0 ≤ g) (g2' : g ≤ 2) :
    Calls Tryd.prog 53 #[.pointer (some ⟨b, 0, none⟩), I g] wr fun e w' => e = .returned (.bool (thereM ins g)) ∧ wr = w' := by
  have c7 := h.c7
  clear h
  have h1 : ins = 0 ∨ ins = 1 ∨ ins = 2 ∨ ins = 3 ∨ ins = 4 ∨ ins = 5 ∨ ins = 6 ∨ ins = 7 := by omega
  have h2 : g = 0 ∨ g = 1 ∨ g = 2 := by omega
  clear h0 h8 g0 g2'
  rcases h1 with rfl | rfl | rfl | rfl | rfl | rfl | rfl | rfl <;> rcases h2 with rfl | rfl | rfl
  all_goals
    go_enter Tryd.func53, Tryd.ntmps53
    go_wp2
    go_ret
    exact ⟨ret_bool (by decide), rfl⟩
theorem wwait_any (wr : World) (s : StM) (h : WSt w0 b g1 g2 PA n pc fr WA wc OA oc ins wr s) (k : Nat) (hk : k < n) :
    Calls Tryd.prog 54 #[.pointer (some ⟨b, 0, none⟩), I k] wr fun e w' => e = .returned (.bool false) ∧ wr.setCell ⟨g1, k, none⟩ (Bv true) = w' := by
  have c5 := h.c5
  have hf := own_at h.W hk
  obtain ⟨⟨u, hu, hcu⟩, hfz, hbg⟩ := hf
  clear h hu
  go_enter Tryd.func54, Tryd.ntmps54
  go_wp2
  go_ret
  exact ⟨rfl, rfl⟩
end
theorem Sl.sub {w : World} {b off n : Nat} {cs : List Value} (h : Sl w (some ⟨b, off, none⟩) n cs) (lo m : Nat) (hm : lo + m ≤ n) : Sl w (some ⟨b, off + lo, none⟩) m ((cs.drop lo).take m) := by
  refine ⟨by have := h.1; simp; omega, fun k u hu => ?_⟩
  rw [List.getElem?_take] at hu
  split at hu
  · rw [List.getElem?_drop] at hu
    obtain ⟨b', off', e, hc⟩ := h.2 _ _ hu
    injection e with e; injection e with e1 e2
    subst e1; subst e2
    exact ⟨_, _, rfl, by rw [Nat.add_assoc]; exact hc⟩
  · cases hu
theorem wsome_any (w0 : World) (b g1 g2 : Nat) (PA : Option Addr) (n pc : Nat) (fr : Bool) (WA : Option Addr) (wc : Nat) (OA : Option Addr) (oc : Nat) (ins : Int) (wr : World) (s : StM) (h : WSt w0 b g1 g2 PA n pc fr WA wc OA oc ins wr s)
    (p : List PNode) (V : List Bool) (hp : SlN w0 PA n p) (hV : Sl w0 WA n (V.map Bv)) (hwc : n ≤ wc) (hn : n ≤ 14) (k : Nat) (t : Tr) (ht : TreeAt p k t) (ok : t.ok) :
    Calls Tryd.prog 33 #[.pointer (some ⟨b, 0, none⟩), I k] wr fun e w' => e = .returned (.bool (someT V t k)) ∧ wr = w' := by
  have hle := ht.le
  have hpl := hp.1
  have hsz := size_pos t
  have hkn : k < n := by omega
  obtain ⟨wb, woff, x, rfl, -, -⟩ := hV.next hkn
  have c0 := h.c0; have c2 := h.c2
  have hof : ((ofP p k).2.2) = (k : Int) + t.size := by
    cases t with
    | leaf x => rw [ht.of_leaf ok]; simp [Tr.size]
    | two x a b => rw [ht.of_two ok]
  have hks : k + t.size ≤ n := by omega
  have hcc : k + t.size ≤ wc := by omega
  have hkc : k ≠ wc := by omega
  have hP := Lib.hid (hp.keep h.ext.keeps)
  have hVV := Lib.hid ((hV.keep h.ext.keeps).sub k t.size hks)
  have HOF := Lib.hid hof
  have hmap : ((V.map Bv).drop k).take t.size = ((V.drop k).take t.size).map Bv := by simp
  have HMAP := Lib.hid hmap
  have kk : IntKind.i64.wrap ((k : Int) + (t.size : Int) - (k : Int)) = t.size := by rw [show (k : Int) + (t.size : Int) - (k : Int) = t.size from by omega]; exact IntWalk.i64_in _ (by omega)
  clear h hof ok hp hV ht hle hpl hmap kk
  go_enter Tryd.func33, Tryd.ntmps33
  go_wp2_with fail
  refine (progOf_any _ n pc p k wr hP.out (by omega) hkn).mono ?_; rintro e w' ⟨rfl, rfl⟩; rw [HOF.out]
  go_wp2_with fail
  refine (containsBool_any _ t.size _ ((V.drop k).take t.size) true wr (by rw [← HMAP.out]; exact hVV.out) (by unfold maxLen; omega)).mono ?_; rintro e w' ⟨rfl, rfl⟩
  go_wp2
  go_ret
  exact ⟨ret_bool (by simp [someT]), rfl⟩
set_option maxHeartbeats 2000000 in
theorem fresh_any (A : Option Addr) (n c : Nat) (w : World) (hn : n ≤ 14) :
    Calls Tryd.prog 13 #[.slice A n c] w fun e w' => ∃ g1 g2, e = .returned (.agg #[Bv true, .slice (some ⟨g1, 0, none⟩) n n, .slice (some ⟨g2, 0, none⟩) 3 3]) ∧ w.heap.size ≤ g1 ∧ w.heap.size ≤ g2 ∧ g1 ≠ g2 ∧
      w'.ownsRow w.heap.size 4 1 (.slice (some ⟨g1, 0, none⟩) n n) n ((List.replicate n false).map Bv) ∧ w'.ownsRow w.heap.size 4 1 (.slice (some ⟨g2, 0, none⟩) 3 3) 3 (([false, false, false] : List Bool).map Bv) ∧ Ext w w' := by
  have hmk := fun W => run_make1 (P := Tryd.prog) 32 4 tab_bool Tryd.underlying32 rfl n (by omega) (by omega) W
  have hm3 : ∀ W, (Instr.makeSlice 32 (.int .i64 3) (.int .i64 3)).run Tryd.prog W = .ok (.slice (some ⟨W.heap.size, 0, none⟩) 3 3) (W.alloc (.cells (zeros (.bool false) 3) 4)) := fun W => run_make1 (P := Tryd.prog) 32 4 tab_bool Tryd.underlying32 rfl 3 (by omega) (by omega) W
  go_enter Tryd.func13, Tryd.ntmps13
  go_wp2_with fail
  go_region
  · go_wp2
    refine bodyPost_ret (v := .agg #[Bv true, .slice (some ⟨w.heap.size + 1, 0, none⟩) n n, .slice (some ⟨w.heap.size + 1 + 1, 0, none⟩) 3 3]) (by simp [results, Tryd.results13, go_sem]) rfl ⟨w.heap.size + 1, w.heap.size + 1 + 1, rfl, by omega, by omega, by omega, ?_, ?_, (((Ext.refl w).alloc _).alloc _).alloc _ |>.drew⟩
    · have := own_ext (own_made (w.alloc (.cells #[.bool true, .slice (some ⟨w.heap.size + 1, 0, none⟩) n n, .slice (some ⟨w.heap.size + 1 + 1, 0, none⟩) 3 3] 34)) 4 (.bool false) n w.heap.size (by simp) (by unfold maxLen; omega)) (((Ext.refl _).alloc (.cells (zeros (.bool false) 3) 4)).drew)
      simpa using this
    · have := own_ext (own_made ((w.alloc (.cells #[.bool true, .slice (some ⟨w.heap.size + 1, 0, none⟩) n n, .slice (some ⟨w.heap.size + 1 + 1, 0, none⟩) 3 3] 34)).alloc (.cells (zeros (.bool false) n) 4)) 4 (.bool false) 3 w.heap.size (by simp; omega) (by unfold maxLen; omega)) ((Ext.refl _).drew)
      simpa using this
  · go_wp2
    refine bodyPost_ret (v := .agg #[Bv true, .slice (some ⟨w.heap.size + 1 + 1, 0, none⟩) n n, .slice (some ⟨w.heap.size + 1, 0, none⟩) 3 3]) (by simp [results, Tryd.results13, go_sem]) rfl ⟨w.heap.size + 1 + 1, w.heap.size + 1, rfl, by omega, by omega, by omega, ?_, ?_, (((Ext.refl w).alloc _).alloc _).alloc _ |>.drew⟩
    · have := own_ext (own_made ((w.alloc (.cells #[.bool true, .slice (some ⟨w.heap.size + 1 + 1, 0, none⟩) n n, .slice (some ⟨w.heap.size + 1, 0, none⟩) 3 3] 34)).alloc (.cells (zeros (.bool false) 3) 4)) 4 (.bool false) n w.heap.size (by simp; omega) (by unfold maxLen; omega)) ((Ext.refl _).drew)
      simpa using this
    · have := own_ext (own_made (w.alloc (.cells #[.bool true, .slice (some ⟨w.heap.size + 1 + 1, 0, none⟩) n n, .slice (some ⟨w.heap.size + 1, 0, none⟩) 3 3] 34)) 4 (.bool false) 3 w.heap.size (by simp) (by unfold maxLen; omega)) (((Ext.refl _).alloc (.cells (zeros (.bool false) n) 4)).drew)
      simpa using this
end Go.Proofs.YtgohhcnmkomafaaDoor
/- The walker's begin walked. -/
namespace Go.Proofs.YtgohhcnmkomafaaDoor
set_option linter.unusedVariables false
set_option linter.unusedSimpArgs false
open Go.RowKit
attribute [local go_sem ↓] Go.wp_at_zero Go.wp_at_succ
section
variable (w0 : World) (b g1 g2 : Nat) (PA : Option Addr) (n pc : Nat) (fr : Bool) (WA : Option Addr) (wc : Nat) (OA : Option Addr) (oc : Nat) (ins : Int) (p : List PNode) (outs : List Bool)
set_option maxRecDepth 100000 in
set_option maxHeartbeats 4000000 in
theorem wbegin_leaf (hp : SlN w0 PA n p) (hn : n ≤ 14) (x : PNode) (k : Nat) (wr : World) (s : StM) (ht : TreeAt p k (.leaf x)) (ok : (Tr.leaf x).ok) (hg : goodN x) (h : WSt w0 b g1 g2 PA n pc fr WA wc OA oc ins wr s) :
    Calls Tryd.prog 32 #[.pointer (some ⟨b, 0, none⟩), I k] wr fun e w' => e = .returned (.bool (beginT (thereM ins) (wasM outs) (.leaf x) k s).1) ∧
      WSt w0 b g1 g2 PA n pc fr WA wc OA oc ins w' (beginT (thereM ins) (wasM outs) (.leaf x) k s).2 ∧ Off g1 g2 wr w' := by
  have hle := ht.le
  have hpl := hp.1
  have hkn : k < n := by simp [Tr.size] at hle; omega
  have hof := ht.of_leaf ok
  have hk := good_leaf' ok hg
  have hsg := hg.2
  have htop := ht.top
  obtain ⟨pb, poff, y, rfl, d0, d1, -, hy⟩ := hp.next hkn
  have hyx : y = x := by rw [htop] at hy; injection hy with hy; exact hy.symm
  subst hyx
  have c0 := h.c0; have c6 := h.c6
  have hbl := lt_of_cell c0
  have e0 := h.ext.keeps _ _ d0; have e1 := h.ext.keeps _ _ d1
  have hpl2 := lt_of_cell e0
  have HP := Lib.hid hp; have HOF := Lib.hid hof; have HS := Lib.hid h
  obtain ⟨kd, sg⟩ := y
  simp only [beginT] at *
  clear hp hof h ht ok hg hle hpl htop hy d0 d1
  rcases hk with rfl | rfl | rfl | rfl | rfl
  · clear c6 hsg
    go_enter Tryd.func32, Tryd.ntmps32
    go_wp2_with fail
    refine (progOf_any _ n pc p k _ ((HP.out.keep HS.out.ext.keeps).keep (((Ext.refl wr).alloc _).alloc _).keeps) (by omega) hkn).mono ?_; rintro e w' ⟨rfl, rfl⟩; rw [HOF.out]
    go_wp2
    go_ret
    exact ⟨rfl, HS.out.more (((((Ext.refl wr).alloc _).alloc _).alloc _).alloc _), .of_ext (((((Ext.refl wr).alloc _).alloc _).alloc _).alloc _)⟩
  · clear c6 hsg
    go_enter Tryd.func32, Tryd.ntmps32
    go_wp2_with fail
    refine (progOf_any _ n pc p k _ ((HP.out.keep HS.out.ext.keeps).keep (((Ext.refl wr).alloc _).alloc _).keeps) (by omega) hkn).mono ?_; rintro e w' ⟨rfl, rfl⟩; rw [HOF.out]
    go_wp2_with fail
    have hx4 := (((((Ext.refl wr).alloc (.cells #[.pointer (some ⟨b, 0, none⟩)] 79)).alloc (.cells #[.int .i64 1, .int .i64 sg] 70)).alloc (.cells #[.int .i64 0] 3)).alloc (.cells #[.int .i64 0] 3))
    refine (wwait_any w0 b g1 g2 _ n pc fr WA wc OA oc ins _ s (HS.out.more hx4) k hkn).mono ?_; rintro e w' ⟨rfl, rfl⟩
    go_wp2
    go_ret
    exact ⟨rfl, (HS.out.more hx4).setW k, (Off.of_ext hx4).set1 k _⟩
  · clear c6 hsg
    go_enter Tryd.func32, Tryd.ntmps32
    go_wp2_with fail
    refine (progOf_any _ n pc p k _ ((HP.out.keep HS.out.ext.keeps).keep (((Ext.refl wr).alloc _).alloc _).keeps) (by omega) hkn).mono ?_; rintro e w' ⟨rfl, rfl⟩; rw [HOF.out]
    go_wp2_with fail
    have hx4 := (((((Ext.refl wr).alloc (.cells #[.pointer (some ⟨b, 0, none⟩)] 79)).alloc (.cells #[.int .i64 2, .int .i64 sg] 70)).alloc (.cells #[.int .i64 0] 3)).alloc (.cells #[.int .i64 0] 3))
    refine (wwait_any w0 b g1 g2 _ n pc fr WA wc OA oc ins _ s (HS.out.more hx4) k hkn).mono ?_; rintro e w' ⟨rfl, rfl⟩
    go_wp2
    go_ret
    exact ⟨rfl, (HS.out.more hx4).setW k, (Off.of_ext hx4).set1 k _⟩
  · have hsr : 0 ≤ sg ∧ sg < 3 := by simp [badSig, signsM] at hsg; omega
    obtain ⟨q, rfl⟩ := Int.eq_ofNat_of_zero_le hsr.1
    have hq : q < 3 := by omega
    clear hsg hsr
    go_enter Tryd.func32, Tryd.ntmps32
    go_wp2_with fail
    refine (progOf_any _ n pc p k _ ((HP.out.keep HS.out.ext.keeps).keep (((Ext.refl wr).alloc _).alloc _).keeps) (by omega) hkn).mono ?_; rintro e w' ⟨rfl, rfl⟩; rw [HOF.out]
    go_wp2_with fail
    have hx4 := (((((Ext.refl wr).alloc (.cells #[.pointer (some ⟨b, 0, none⟩)] 79)).alloc (.cells #[.int .i64 3, .int .i64 (q : Int)] 70)).alloc (.cells #[.int .i64 0] 3)).alloc (.cells #[.int .i64 0] 3))
    have z0 : ((((wr.alloc (.cells #[.pointer (some ⟨b, 0, none⟩)] 79)).alloc (.cells #[.int .i64 3, .int .i64 (q : Int)] 70)).alloc (.cells #[.int .i64 0] 3)).alloc (.cells #[.int .i64 0] 3)).cell? ⟨wr.heap.size, 0, none⟩ = some (.pointer (some ⟨b, 0, none⟩)) := by go_simp
    have z1 : ((((wr.alloc (.cells #[.pointer (some ⟨b, 0, none⟩)] 79)).alloc (.cells #[.int .i64 3, .int .i64 (q : Int)] 70)).alloc (.cells #[.int .i64 0] 3)).alloc (.cells #[.int .i64 0] 3)).cell? ⟨wr.heap.size + 1, 1, none⟩ = some (.int .i64 (q : Int)) := by go_simp
    generalize (((wr.alloc (.cells #[.pointer (some ⟨b, 0, none⟩)] 79)).alloc (.cells #[.int .i64 3, .int .i64 (q : Int)] 70)).alloc (.cells #[.int .i64 0] 3)).alloc (.cells #[.int .i64 0] 3) = W4 at *
    have HS4 := HS.out.more hx4
    have y6 := HS4.c6
    obtain ⟨⟨u, hu, hcu⟩, hfz, -⟩ := own_at HS4.O hq
    have HS5 := Lib.hid HS4; have HX4 := Lib.hid hx4
    clear hx4 HS4 hu c6
    have hq0 : (0 : Int) ≤ (q : Int) := by omega
    have hq3 : (q : Int) < 3 := by omega
    go_still_tail 8, (by kernel_rfl)
    change wpList _ _ _ _ _ W4.drew
    go_wp2
    go_ret
    exact ⟨rfl, (HS5.out.setO q).more ((Ext.refl _).drew), ((Off.of_ext HX4.out).set2 q _).drew⟩
  · clear c6 hsg
    go_enter Tryd.func32, Tryd.ntmps32
    go_wp2_with fail
    refine (progOf_any _ n pc p k _ ((HP.out.keep HS.out.ext.keeps).keep (((Ext.refl wr).alloc _).alloc _).keeps) (by omega) hkn).mono ?_; rintro e w' ⟨rfl, rfl⟩; rw [HOF.out]
    go_wp2_with fail
    have hx4 := (((((Ext.refl wr).alloc (.cells #[.pointer (some ⟨b, 0, none⟩)] 79)).alloc (.cells #[.int .i64 4, .int .i64 sg] 70)).alloc (.cells #[.int .i64 0] 3)).alloc (.cells #[.int .i64 0] 3))
    refine (wwait_any w0 b g1 g2 _ n pc fr WA wc OA oc ins _ s (HS.out.more hx4) k hkn).mono ?_; rintro e w' ⟨rfl, rfl⟩
    go_wp2
    go_ret
    exact ⟨rfl, (HS.out.more hx4).setW k, (Off.of_ext hx4).set1 k _⟩
end
end Go.Proofs.YtgohhcnmkomafaaDoor
/- The walker's begin walked: nodes of two parts. (Printed by walkbegin2.py.) -/
namespace Go.Proofs.YtgohhcnmkomafaaDoor
set_option linter.unusedVariables false
set_option linter.unusedSimpArgs false
open Go.RowKit
attribute [local go_sem ↓] Go.wp_at_zero Go.wp_at_succ
theorem wchoice_any (b m : Nat) (f g : Int) (c : Bool) (W : World) (z0 : W.cell? ⟨m, 0, none⟩ = some (.pointer (some ⟨b, 0, none⟩))) (z6 : W.cell? ⟨m + 1 + 1, 0, none⟩ = some (I f)) (z7 : W.cell? ⟨m + 1 + 1 + 1, 0, none⟩ = some (I g))
    (r : Bool) (R : World → Prop) (hc : Calls Tryd.prog 32 #[.pointer (some ⟨b, 0, none⟩), I (if c then f else g)] W fun e w' => e = .returned (.bool r) ∧ R w') :
    Calls Tryd.prog 52 #[Bv c, .pointer (some ⟨m, 0, none⟩), .pointer (some ⟨m + 1 + 1, 0, none⟩), .pointer (some ⟨m + 1 + 1 + 1, 0, none⟩)] W fun e w' => e = .returned (.bool r) ∧ R w' := by
  cases c
  · simp only [Bool.false_eq_true, if_false] at hc
    have HC := Lib.hid hc; clear hc
    go_enter Tryd.func52, Tryd.ntmps52
    go_wp2_with fail
    refine HC.out.mono ?_; rintro e w' ⟨rfl, hr⟩
    have HR := Lib.hid hr; clear hr
    go_wp2
    go_ret
    exact ⟨rfl, HR.out⟩
  · simp only [if_true] at hc
    have HC := Lib.hid hc; clear hc
    go_enter Tryd.func52, Tryd.ntmps52
    go_wp2_with fail
    refine HC.out.mono ?_; rintro e w' ⟨rfl, hr⟩
    have HR := Lib.hid hr; clear hr
    go_wp2
    go_ret
    exact ⟨rfl, HR.out⟩
section
variable (w0 : World) (b g1 g2 : Nat) (PA : Option Addr) (n pc : Nat) (fr : Bool) (WA : Option Addr) (wc : Nat) (OA : Option Addr) (oc : Nat) (ins : Int) (p : List PNode) (outs : List Bool)
/-- What is told of begin. -/
def BeginOK (t : Tr) (k : Nat) : Prop := ∀ (wr : World) (s : StM), WSt w0 b g1 g2 PA n pc fr WA wc OA oc ins wr s →
  Calls Tryd.prog 32 #[.pointer (some ⟨b, 0, none⟩), I k] wr fun e w' => e = .returned (.bool (beginT (thereM ins) (wasM outs) t k s).1) ∧
      (WSt w0 b g1 g2 PA n pc fr WA wc OA oc ins w' (beginT (thereM ins) (wasM outs) t k s).2 ∧ Off g1 g2 wr w')
set_option maxRecDepth 100000 in
set_option maxHeartbeats 8000000 in
theorem wbegin_seq (hp : SlN w0 PA n p) (hn : n ≤ 14) (sg : Int) (ta tb : Tr) (k : Nat) (ht : TreeAt p k (.two ⟨5, sg⟩ ta tb)) (ok : (Tr.two ⟨5, sg⟩ ta tb).ok) (hsr : 0 ≤ sg ∧ sg ≤ 2)
    (ia : BeginOK w0 b g1 g2 PA n pc fr WA wc OA oc ins outs ta (k + 1)) (ib : BeginOK w0 b g1 g2 PA n pc fr WA wc OA oc ins outs tb (k + 1 + ta.size)) :
    BeginOK w0 b g1 g2 PA n pc fr WA wc OA oc ins outs (.two ⟨5, sg⟩ ta tb) k := by
  intro wr s h
  have hle := ht.le
  have hpl := hp.1
  have hkn : k < n := by simp [Tr.size] at hle; omega
  have hof := ht.of_two ok
  have htop := ht.top
  obtain ⟨pb, poff, y, rfl, d0, d1, -, hy⟩ := hp.next hkn
  have hyx : y = ⟨5, sg⟩ := by rw [htop] at hy; injection hy with hy; exact hy.symm
  subst hyx
  have c0 := h.c0
  have hbl := lt_of_cell c0
  have e0 := h.ext.keeps _ _ d0; have e1 := h.ext.keeps _ _ d1
  have hpl2 := lt_of_cell e0
  have hg1 : g1 < wr.heap.size := (h.W.lt g1 rfl).2
  have hg2 : g2 < wr.heap.size := (h.O.lt g2 rfl).2
  have HP := Lib.hid hp; have HOF := Lib.hid hof; have HS := Lib.hid h; have HG1 := Lib.hid hg1; have HG2 := Lib.hid hg2; have HSR := Lib.hid hsr
  have ca : ∀ (wr : World) (s : StM), WSt w0 b g1 g2 (some ⟨pb, poff, none⟩) n pc fr WA wc OA oc ins wr s → Calls Tryd.prog 32 #[.pointer (some ⟨b, 0, none⟩), .int .i64 ((k : Int) + 1)] wr fun e w' => e = .returned (.bool (beginT (thereM ins) (wasM outs) ta (k + 1) s).1) ∧
      (WSt w0 b g1 g2 (some ⟨pb, poff, none⟩) n pc fr WA wc OA oc ins w' (beginT (thereM ins) (wasM outs) ta (k + 1) s).2 ∧ Off g1 g2 wr w') := fun wr s h => by
    have := ia wr s h; rwa [show ((k + 1 : Nat) : Int) = (k : Int) + 1 from by omega] at this
  have cb : ∀ (wr : World) (s : StM), WSt w0 b g1 g2 (some ⟨pb, poff, none⟩) n pc fr WA wc OA oc ins wr s → Calls Tryd.prog 32 #[.pointer (some ⟨b, 0, none⟩), .int .i64 ((k : Int) + 1 + ta.size)] wr fun e w' => e = .returned (.bool (beginT (thereM ins) (wasM outs) tb (k + 1 + ta.size) s).1) ∧
      (WSt w0 b g1 g2 (some ⟨pb, poff, none⟩) n pc fr WA wc OA oc ins w' (beginT (thereM ins) (wasM outs) tb (k + 1 + ta.size) s).2 ∧ Off g1 g2 wr w') := fun wr s h => by
    have := ib wr s h; rwa [show ((k + 1 + ta.size : Nat) : Int) = (k : Int) + 1 + ta.size from by omega] at this
  have IA := Lib.hid ca; have IB := Lib.hid cb; clear ca cb
  generalize hM : beginT (thereM ins) (wasM outs) (.two ⟨5, sg⟩ ta tb) k s = M
  simp only [beginT, choiceM, Int.reduceEq, if_true, if_false] at hM
  clear hp hof h ht ok hle hpl htop hy d0 d1 ia ib hg1 hg2 hsr
  generalize hnx : (k : Int) + (Tr.two ⟨5, sg⟩ ta tb).size = beh at *
  clear hnx
  cases hr : (beginT (thereM ins) (wasM outs) ta (k + 1) s).1
  · rw [hr] at hM
    have HR := Lib.hid hr; have HM := Lib.hid hM; clear hr hM
    go_enter Tryd.func32, Tryd.ntmps32
    go_wp2_with fail
    refine (progOf_any _ n pc p k _ ((HP.out.keep HS.out.ext.keeps).keep (((Ext.refl wr).alloc _).alloc _).keeps) (by omega) hkn).mono ?_; rintro e w' ⟨rfl, rfl⟩; rw [HOF.out]
    go_wp2_with fail
    have hx4 : Ext wr ((((wr.alloc (.cells #[.pointer (some ⟨b, 0, none⟩)] 79)).alloc (.cells #[.int .i64 5, .int .i64 sg] 70)).alloc (.cells #[.int .i64 ((k : Int) + 1)] 3)).alloc (.cells #[.int .i64 ((k : Int) + 1 + ta.size)] 3)) := ((((Ext.refl wr).alloc _).alloc _).alloc _).alloc _
    have z0 : ((((wr.alloc (.cells #[.pointer (some ⟨b, 0, none⟩)] 79)).alloc (.cells #[.int .i64 5, .int .i64 sg] 70)).alloc (.cells #[.int .i64 ((k : Int) + 1)] 3)).alloc (.cells #[.int .i64 ((k : Int) + 1 + ta.size)] 3)).cell? ⟨wr.heap.size, 0, none⟩ = some (.pointer (some ⟨b, 0, none⟩)) := by go_simp
    have z1 : ((((wr.alloc (.cells #[.pointer (some ⟨b, 0, none⟩)] 79)).alloc (.cells #[.int .i64 5, .int .i64 sg] 70)).alloc (.cells #[.int .i64 ((k : Int) + 1)] 3)).alloc (.cells #[.int .i64 ((k : Int) + 1 + ta.size)] 3)).cell? ⟨wr.heap.size + 1, 1, none⟩ = some (.int .i64 sg) := by go_simp
    have z6 : ((((wr.alloc (.cells #[.pointer (some ⟨b, 0, none⟩)] 79)).alloc (.cells #[.int .i64 5, .int .i64 sg] 70)).alloc (.cells #[.int .i64 ((k : Int) + 1)] 3)).alloc (.cells #[.int .i64 ((k : Int) + 1 + ta.size)] 3)).cell? ⟨wr.heap.size + 1 + 1, 0, none⟩ = some (.int .i64 ((k : Int) + 1)) := by go_simp
    have z7 : ((((wr.alloc (.cells #[.pointer (some ⟨b, 0, none⟩)] 79)).alloc (.cells #[.int .i64 5, .int .i64 sg] 70)).alloc (.cells #[.int .i64 ((k : Int) + 1)] 3)).alloc (.cells #[.int .i64 ((k : Int) + 1 + ta.size)] 3)).cell? ⟨wr.heap.size + 1 + 1 + 1, 0, none⟩ = some (.int .i64 ((k : Int) + 1 + ta.size)) := by go_simp
    generalize ((((wr.alloc (.cells #[.pointer (some ⟨b, 0, none⟩)] 79)).alloc (.cells #[.int .i64 5, .int .i64 sg] 70)).alloc (.cells #[.int .i64 ((k : Int) + 1)] 3)).alloc (.cells #[.int .i64 ((k : Int) + 1 + ta.size)] 3)) = W4 at *
    have HS4 := Lib.hid (HS.out.more hx4); have HX4 := Lib.hid hx4; clear hx4
    have m1 := HG1.out; have m2 := HG2.out
    have off4 : ∀ w1 : World, Off g1 g2 W4 w1 → w1.cell? ⟨wr.heap.size, 0, none⟩ = some (.pointer (some ⟨b, 0, none⟩)) ∧ w1.cell? ⟨wr.heap.size + 1 + 1, 0, none⟩ = some (.int .i64 ((k : Int) + 1)) ∧ w1.cell? ⟨wr.heap.size + 1 + 1 + 1, 0, none⟩ = some (.int .i64 ((k : Int) + 1 + ta.size)) := fun w1 o =>
      ⟨o.cell z0 (by show wr.heap.size ≠ g1; omega) (by show wr.heap.size ≠ g2; omega), o.cell z6 (by show wr.heap.size + 1 + 1 ≠ g1; omega) (by show wr.heap.size + 1 + 1 ≠ g2; omega), o.cell z7 (by show wr.heap.size + 1 + 1 + 1 ≠ g1; omega) (by show wr.heap.size + 1 + 1 + 1 ≠ g2; omega)⟩
    have OFF4 := Lib.hid off4; clear off4 m1 m2
    refine (IA.out W4 s HS4.out).mono ?_; rintro e w1 ⟨rfl, hs1, o1⟩; rw [HR.out]
    have HS1 := Lib.hid hs1; have O1 := Lib.hid o1; clear hs1 o1
    go_wp2
    go_ret
    exact ⟨by rw [← HM.out]; rfl, by rw [← HM.out]; exact HS1.out, (Off.of_ext HX4.out).trans O1.out⟩
  · rw [hr] at hM
    have HR := Lib.hid hr; have HM := Lib.hid hM; clear hr hM
    go_enter Tryd.func32, Tryd.ntmps32
    go_wp2_with fail
    refine (progOf_any _ n pc p k _ ((HP.out.keep HS.out.ext.keeps).keep (((Ext.refl wr).alloc _).alloc _).keeps) (by omega) hkn).mono ?_; rintro e w' ⟨rfl, rfl⟩; rw [HOF.out]
    go_wp2_with fail
    have hx4 : Ext wr ((((wr.alloc (.cells #[.pointer (some ⟨b, 0, none⟩)] 79)).alloc (.cells #[.int .i64 5, .int .i64 sg] 70)).alloc (.cells #[.int .i64 ((k : Int) + 1)] 3)).alloc (.cells #[.int .i64 ((k : Int) + 1 + ta.size)] 3)) := ((((Ext.refl wr).alloc _).alloc _).alloc _).alloc _
    have z0 : ((((wr.alloc (.cells #[.pointer (some ⟨b, 0, none⟩)] 79)).alloc (.cells #[.int .i64 5, .int .i64 sg] 70)).alloc (.cells #[.int .i64 ((k : Int) + 1)] 3)).alloc (.cells #[.int .i64 ((k : Int) + 1 + ta.size)] 3)).cell? ⟨wr.heap.size, 0, none⟩ = some (.pointer (some ⟨b, 0, none⟩)) := by go_simp
    have z1 : ((((wr.alloc (.cells #[.pointer (some ⟨b, 0, none⟩)] 79)).alloc (.cells #[.int .i64 5, .int .i64 sg] 70)).alloc (.cells #[.int .i64 ((k : Int) + 1)] 3)).alloc (.cells #[.int .i64 ((k : Int) + 1 + ta.size)] 3)).cell? ⟨wr.heap.size + 1, 1, none⟩ = some (.int .i64 sg) := by go_simp
    have z6 : ((((wr.alloc (.cells #[.pointer (some ⟨b, 0, none⟩)] 79)).alloc (.cells #[.int .i64 5, .int .i64 sg] 70)).alloc (.cells #[.int .i64 ((k : Int) + 1)] 3)).alloc (.cells #[.int .i64 ((k : Int) + 1 + ta.size)] 3)).cell? ⟨wr.heap.size + 1 + 1, 0, none⟩ = some (.int .i64 ((k : Int) + 1)) := by go_simp
    have z7 : ((((wr.alloc (.cells #[.pointer (some ⟨b, 0, none⟩)] 79)).alloc (.cells #[.int .i64 5, .int .i64 sg] 70)).alloc (.cells #[.int .i64 ((k : Int) + 1)] 3)).alloc (.cells #[.int .i64 ((k : Int) + 1 + ta.size)] 3)).cell? ⟨wr.heap.size + 1 + 1 + 1, 0, none⟩ = some (.int .i64 ((k : Int) + 1 + ta.size)) := by go_simp
    generalize ((((wr.alloc (.cells #[.pointer (some ⟨b, 0, none⟩)] 79)).alloc (.cells #[.int .i64 5, .int .i64 sg] 70)).alloc (.cells #[.int .i64 ((k : Int) + 1)] 3)).alloc (.cells #[.int .i64 ((k : Int) + 1 + ta.size)] 3)) = W4 at *
    have HS4 := Lib.hid (HS.out.more hx4); have HX4 := Lib.hid hx4; clear hx4
    have m1 := HG1.out; have m2 := HG2.out
    have off4 : ∀ w1 : World, Off g1 g2 W4 w1 → w1.cell? ⟨wr.heap.size, 0, none⟩ = some (.pointer (some ⟨b, 0, none⟩)) ∧ w1.cell? ⟨wr.heap.size + 1 + 1, 0, none⟩ = some (.int .i64 ((k : Int) + 1)) ∧ w1.cell? ⟨wr.heap.size + 1 + 1 + 1, 0, none⟩ = some (.int .i64 ((k : Int) + 1 + ta.size)) := fun w1 o =>
      ⟨o.cell z0 (by show wr.heap.size ≠ g1; omega) (by show wr.heap.size ≠ g2; omega), o.cell z6 (by show wr.heap.size + 1 + 1 ≠ g1; omega) (by show wr.heap.size + 1 + 1 ≠ g2; omega), o.cell z7 (by show wr.heap.size + 1 + 1 + 1 ≠ g1; omega) (by show wr.heap.size + 1 + 1 + 1 ≠ g2; omega)⟩
    have OFF4 := Lib.hid off4; clear off4 m1 m2
    refine (IA.out W4 s HS4.out).mono ?_; rintro e w1 ⟨rfl, hs1, o1⟩; rw [HR.out]
    obtain ⟨y0, y6, y7⟩ := OFF4.out _ o1
    have HS1 := Lib.hid hs1; have O1 := Lib.hid o1; clear hs1 o1 z0 z1 z6 z7
    go_wp2_with fail
    refine (IB.out w1 _ HS1.out).mono ?_; rintro e w2 ⟨rfl, hs2, o2⟩
    have HS2 := Lib.hid hs2; have O2 := Lib.hid o2; clear hs2 o2
    go_wp2
    go_ret
    exact ⟨by rw [← HM.out]; rfl, by rw [← HM.out]; exact HS2.out, ((Off.of_ext HX4.out).trans O1.out).trans O2.out⟩
set_option maxRecDepth 100000 in
set_option maxHeartbeats 8000000 in
theorem wbegin_par (hp : SlN w0 PA n p) (hn : n ≤ 14) (sg : Int) (ta tb : Tr) (k : Nat) (ht : TreeAt p k (.two ⟨6, sg⟩ ta tb)) (ok : (Tr.two ⟨6, sg⟩ ta tb).ok) (hsr : 0 ≤ sg ∧ sg ≤ 2)
    (ia : BeginOK w0 b g1 g2 PA n pc fr WA wc OA oc ins outs ta (k + 1)) (ib : BeginOK w0 b g1 g2 PA n pc fr WA wc OA oc ins outs tb (k + 1 + ta.size)) :
    BeginOK w0 b g1 g2 PA n pc fr WA wc OA oc ins outs (.two ⟨6, sg⟩ ta tb) k := by
  intro wr s h
  have hle := ht.le
  have hpl := hp.1
  have hkn : k < n := by simp [Tr.size] at hle; omega
  have hof := ht.of_two ok
  have htop := ht.top
  obtain ⟨pb, poff, y, rfl, d0, d1, -, hy⟩ := hp.next hkn
  have hyx : y = ⟨6, sg⟩ := by rw [htop] at hy; injection hy with hy; exact hy.symm
  subst hyx
  have c0 := h.c0
  have hbl := lt_of_cell c0
  have e0 := h.ext.keeps _ _ d0; have e1 := h.ext.keeps _ _ d1
  have hpl2 := lt_of_cell e0
  have hg1 : g1 < wr.heap.size := (h.W.lt g1 rfl).2
  have hg2 : g2 < wr.heap.size := (h.O.lt g2 rfl).2
  have HP := Lib.hid hp; have HOF := Lib.hid hof; have HS := Lib.hid h; have HG1 := Lib.hid hg1; have HG2 := Lib.hid hg2; have HSR := Lib.hid hsr
  have ca : ∀ (wr : World) (s : StM), WSt w0 b g1 g2 (some ⟨pb, poff, none⟩) n pc fr WA wc OA oc ins wr s → Calls Tryd.prog 32 #[.pointer (some ⟨b, 0, none⟩), .int .i64 ((k : Int) + 1)] wr fun e w' => e = .returned (.bool (beginT (thereM ins) (wasM outs) ta (k + 1) s).1) ∧
      (WSt w0 b g1 g2 (some ⟨pb, poff, none⟩) n pc fr WA wc OA oc ins w' (beginT (thereM ins) (wasM outs) ta (k + 1) s).2 ∧ Off g1 g2 wr w') := fun wr s h => by
    have := ia wr s h; rwa [show ((k + 1 : Nat) : Int) = (k : Int) + 1 from by omega] at this
  have cb : ∀ (wr : World) (s : StM), WSt w0 b g1 g2 (some ⟨pb, poff, none⟩) n pc fr WA wc OA oc ins wr s → Calls Tryd.prog 32 #[.pointer (some ⟨b, 0, none⟩), .int .i64 ((k : Int) + 1 + ta.size)] wr fun e w' => e = .returned (.bool (beginT (thereM ins) (wasM outs) tb (k + 1 + ta.size) s).1) ∧
      (WSt w0 b g1 g2 (some ⟨pb, poff, none⟩) n pc fr WA wc OA oc ins w' (beginT (thereM ins) (wasM outs) tb (k + 1 + ta.size) s).2 ∧ Off g1 g2 wr w') := fun wr s h => by
    have := ib wr s h; rwa [show ((k + 1 + ta.size : Nat) : Int) = (k : Int) + 1 + ta.size from by omega] at this
  have IA := Lib.hid ca; have IB := Lib.hid cb; clear ca cb
  generalize hM : beginT (thereM ins) (wasM outs) (.two ⟨6, sg⟩ ta tb) k s = M
  simp only [beginT, choiceM, Int.reduceEq, if_true, if_false] at hM
  clear hp hof h ht ok hle hpl htop hy d0 d1 ia ib hg1 hg2 hsr
  generalize hnx : (k : Int) + (Tr.two ⟨6, sg⟩ ta tb).size = beh at *
  clear hnx
  have HM := Lib.hid hM; clear hM
  go_enter Tryd.func32, Tryd.ntmps32
  go_wp2_with fail
  refine (progOf_any _ n pc p k _ ((HP.out.keep HS.out.ext.keeps).keep (((Ext.refl wr).alloc _).alloc _).keeps) (by omega) hkn).mono ?_; rintro e w' ⟨rfl, rfl⟩; rw [HOF.out]
  go_wp2_with fail
  have hx4 : Ext wr ((((wr.alloc (.cells #[.pointer (some ⟨b, 0, none⟩)] 79)).alloc (.cells #[.int .i64 6, .int .i64 sg] 70)).alloc (.cells #[.int .i64 ((k : Int) + 1)] 3)).alloc (.cells #[.int .i64 ((k : Int) + 1 + ta.size)] 3)) := ((((Ext.refl wr).alloc _).alloc _).alloc _).alloc _
  have z0 : ((((wr.alloc (.cells #[.pointer (some ⟨b, 0, none⟩)] 79)).alloc (.cells #[.int .i64 6, .int .i64 sg] 70)).alloc (.cells #[.int .i64 ((k : Int) + 1)] 3)).alloc (.cells #[.int .i64 ((k : Int) + 1 + ta.size)] 3)).cell? ⟨wr.heap.size, 0, none⟩ = some (.pointer (some ⟨b, 0, none⟩)) := by go_simp
  have z1 : ((((wr.alloc (.cells #[.pointer (some ⟨b, 0, none⟩)] 79)).alloc (.cells #[.int .i64 6, .int .i64 sg] 70)).alloc (.cells #[.int .i64 ((k : Int) + 1)] 3)).alloc (.cells #[.int .i64 ((k : Int) + 1 + ta.size)] 3)).cell? ⟨wr.heap.size + 1, 1, none⟩ = some (.int .i64 sg) := by go_simp
  have z6 : ((((wr.alloc (.cells #[.pointer (some ⟨b, 0, none⟩)] 79)).alloc (.cells #[.int .i64 6, .int .i64 sg] 70)).alloc (.cells #[.int .i64 ((k : Int) + 1)] 3)).alloc (.cells #[.int .i64 ((k : Int) + 1 + ta.size)] 3)).cell? ⟨wr.heap.size + 1 + 1, 0, none⟩ = some (.int .i64 ((k : Int) + 1)) := by go_simp
  have z7 : ((((wr.alloc (.cells #[.pointer (some ⟨b, 0, none⟩)] 79)).alloc (.cells #[.int .i64 6, .int .i64 sg] 70)).alloc (.cells #[.int .i64 ((k : Int) + 1)] 3)).alloc (.cells #[.int .i64 ((k : Int) + 1 + ta.size)] 3)).cell? ⟨wr.heap.size + 1 + 1 + 1, 0, none⟩ = some (.int .i64 ((k : Int) + 1 + ta.size)) := by go_simp
  generalize ((((wr.alloc (.cells #[.pointer (some ⟨b, 0, none⟩)] 79)).alloc (.cells #[.int .i64 6, .int .i64 sg] 70)).alloc (.cells #[.int .i64 ((k : Int) + 1)] 3)).alloc (.cells #[.int .i64 ((k : Int) + 1 + ta.size)] 3)) = W4 at *
  have HS4 := Lib.hid (HS.out.more hx4); have HX4 := Lib.hid hx4; clear hx4
  have m1 := HG1.out; have m2 := HG2.out
  have off4 : ∀ w1 : World, Off g1 g2 W4 w1 → w1.cell? ⟨wr.heap.size, 0, none⟩ = some (.pointer (some ⟨b, 0, none⟩)) ∧ w1.cell? ⟨wr.heap.size + 1 + 1, 0, none⟩ = some (.int .i64 ((k : Int) + 1)) ∧ w1.cell? ⟨wr.heap.size + 1 + 1 + 1, 0, none⟩ = some (.int .i64 ((k : Int) + 1 + ta.size)) := fun w1 o =>
    ⟨o.cell z0 (by show wr.heap.size ≠ g1; omega) (by show wr.heap.size ≠ g2; omega), o.cell z6 (by show wr.heap.size + 1 + 1 ≠ g1; omega) (by show wr.heap.size + 1 + 1 ≠ g2; omega), o.cell z7 (by show wr.heap.size + 1 + 1 + 1 ≠ g1; omega) (by show wr.heap.size + 1 + 1 + 1 ≠ g2; omega)⟩
  have OFF4 := Lib.hid off4; clear off4 m1 m2
  go_region_held3 (fun w' => w'.cell? ⟨wr.heap.size, 0, none⟩ = some (.pointer (some ⟨b, 0, none⟩)) ∧ w'.cell? ⟨wr.heap.size + 1 + 1, 0, none⟩ = some (.int .i64 ((k : Int) + 1)) ∧ w'.cell? ⟨wr.heap.size + 1 + 1 + 1, 0, none⟩ = some (.int .i64 ((k : Int) + 1 + ta.size)))
    (first | exact ⟨y0, y6, y7⟩ | go_keep)
    (first | (go_at_call 32; (with_reducible refine (IA.out _ s (HS4.out.more ((Ext.refl W4).drew))).mono ?_); rintro e w1 ⟨rfl, hs1, o1⟩; obtain ⟨y0, y6, y7⟩ := OFF4.out _ ((Off.of_ext ((Ext.refl W4).drew)).trans o1); have HS1 := Lib.hid hs1; have O1 := Lib.hid o1; clear hs1 o1) | (go_at_call 32; (with_reducible refine (IB.out w1 _ HS1.out).mono ?_); rintro e w2 ⟨rfl, hs2, o2⟩; obtain ⟨y0, y6, y7⟩ := OFF4.out _ (((Off.of_ext ((Ext.refl W4).drew)).trans O1.out).trans o2); have HS2 := Lib.hid hs2; have O2 := Lib.hid o2; clear hs2 o2))
  go_wp2
  all_goals
    go_ret
    exact ⟨by rw [← HM.out]; simp_all, by rw [← HM.out]; exact HS2.out, ((Off.of_ext HX4.out).trans ((Off.of_ext ((Ext.refl W4).drew)).trans O1.out)).trans O2.out⟩
set_option maxRecDepth 100000 in
set_option maxHeartbeats 8000000 in
theorem wbegin_if (hp : SlN w0 PA n p) (h0 : 0 ≤ ins) (h8 : ins < 8) (hn : n ≤ 14) (sg : Int) (ta tb : Tr) (k : Nat) (ht : TreeAt p k (.two ⟨7, sg⟩ ta tb)) (ok : (Tr.two ⟨7, sg⟩ ta tb).ok) (hsr : 0 ≤ sg ∧ sg ≤ 2)
    (ia : BeginOK w0 b g1 g2 PA n pc fr WA wc OA oc ins outs ta (k + 1)) (ib : BeginOK w0 b g1 g2 PA n pc fr WA wc OA oc ins outs tb (k + 1 + ta.size)) :
    BeginOK w0 b g1 g2 PA n pc fr WA wc OA oc ins outs (.two ⟨7, sg⟩ ta tb) k := by
  intro wr s h
  have hle := ht.le
  have hpl := hp.1
  have hkn : k < n := by simp [Tr.size] at hle; omega
  have hof := ht.of_two ok
  have htop := ht.top
  obtain ⟨pb, poff, y, rfl, d0, d1, -, hy⟩ := hp.next hkn
  have hyx : y = ⟨7, sg⟩ := by rw [htop] at hy; injection hy with hy; exact hy.symm
  subst hyx
  have c0 := h.c0
  have hbl := lt_of_cell c0
  have e0 := h.ext.keeps _ _ d0; have e1 := h.ext.keeps _ _ d1
  have hpl2 := lt_of_cell e0
  have hg1 : g1 < wr.heap.size := (h.W.lt g1 rfl).2
  have hg2 : g2 < wr.heap.size := (h.O.lt g2 rfl).2
  have HP := Lib.hid hp; have HOF := Lib.hid hof; have HS := Lib.hid h; have HG1 := Lib.hid hg1; have HG2 := Lib.hid hg2; have HSR := Lib.hid hsr
  have ca : ∀ (wr : World) (s : StM), WSt w0 b g1 g2 (some ⟨pb, poff, none⟩) n pc fr WA wc OA oc ins wr s → Calls Tryd.prog 32 #[.pointer (some ⟨b, 0, none⟩), .int .i64 ((k : Int) + 1)] wr fun e w' => e = .returned (.bool (beginT (thereM ins) (wasM outs) ta (k + 1) s).1) ∧
      (WSt w0 b g1 g2 (some ⟨pb, poff, none⟩) n pc fr WA wc OA oc ins w' (beginT (thereM ins) (wasM outs) ta (k + 1) s).2 ∧ Off g1 g2 wr w') := fun wr s h => by
    have := ia wr s h; rwa [show ((k + 1 : Nat) : Int) = (k : Int) + 1 from by omega] at this
  have cb : ∀ (wr : World) (s : StM), WSt w0 b g1 g2 (some ⟨pb, poff, none⟩) n pc fr WA wc OA oc ins wr s → Calls Tryd.prog 32 #[.pointer (some ⟨b, 0, none⟩), .int .i64 ((k : Int) + 1 + ta.size)] wr fun e w' => e = .returned (.bool (beginT (thereM ins) (wasM outs) tb (k + 1 + ta.size) s).1) ∧
      (WSt w0 b g1 g2 (some ⟨pb, poff, none⟩) n pc fr WA wc OA oc ins w' (beginT (thereM ins) (wasM outs) tb (k + 1 + ta.size) s).2 ∧ Off g1 g2 wr w') := fun wr s h => by
    have := ib wr s h; rwa [show ((k + 1 + ta.size : Nat) : Int) = (k : Int) + 1 + ta.size from by omega] at this
  have IA := Lib.hid ca; have IB := Lib.hid cb; clear ca cb
  generalize hM : beginT (thereM ins) (wasM outs) (.two ⟨7, sg⟩ ta tb) k s = M
  simp only [beginT, choiceM, Int.reduceEq, if_true, if_false] at hM
  clear hp hof h ht ok hle hpl htop hy d0 d1 ia ib hg1 hg2 hsr
  generalize hnx : (k : Int) + (Tr.two ⟨7, sg⟩ ta tb).size = beh at *
  clear hnx
  cases hr : thereM ins sg
  · rw [hr] at hM
    simp only [Bool.false_eq_true, if_false, if_true] at hM
    have HR := Lib.hid hr; have HM := Lib.hid hM; clear hr hM
    go_enter Tryd.func32, Tryd.ntmps32
    go_wp2_with fail
    refine (progOf_any _ n pc p k _ ((HP.out.keep HS.out.ext.keeps).keep (((Ext.refl wr).alloc _).alloc _).keeps) (by omega) hkn).mono ?_; rintro e w' ⟨rfl, rfl⟩; rw [HOF.out]
    go_wp2_with fail
    have hx4 : Ext wr ((((wr.alloc (.cells #[.pointer (some ⟨b, 0, none⟩)] 79)).alloc (.cells #[.int .i64 7, .int .i64 sg] 70)).alloc (.cells #[.int .i64 ((k : Int) + 1)] 3)).alloc (.cells #[.int .i64 ((k : Int) + 1 + ta.size)] 3)) := ((((Ext.refl wr).alloc _).alloc _).alloc _).alloc _
    have z0 : ((((wr.alloc (.cells #[.pointer (some ⟨b, 0, none⟩)] 79)).alloc (.cells #[.int .i64 7, .int .i64 sg] 70)).alloc (.cells #[.int .i64 ((k : Int) + 1)] 3)).alloc (.cells #[.int .i64 ((k : Int) + 1 + ta.size)] 3)).cell? ⟨wr.heap.size, 0, none⟩ = some (.pointer (some ⟨b, 0, none⟩)) := by go_simp
    have z1 : ((((wr.alloc (.cells #[.pointer (some ⟨b, 0, none⟩)] 79)).alloc (.cells #[.int .i64 7, .int .i64 sg] 70)).alloc (.cells #[.int .i64 ((k : Int) + 1)] 3)).alloc (.cells #[.int .i64 ((k : Int) + 1 + ta.size)] 3)).cell? ⟨wr.heap.size + 1, 1, none⟩ = some (.int .i64 sg) := by go_simp
    have z6 : ((((wr.alloc (.cells #[.pointer (some ⟨b, 0, none⟩)] 79)).alloc (.cells #[.int .i64 7, .int .i64 sg] 70)).alloc (.cells #[.int .i64 ((k : Int) + 1)] 3)).alloc (.cells #[.int .i64 ((k : Int) + 1 + ta.size)] 3)).cell? ⟨wr.heap.size + 1 + 1, 0, none⟩ = some (.int .i64 ((k : Int) + 1)) := by go_simp
    have z7 : ((((wr.alloc (.cells #[.pointer (some ⟨b, 0, none⟩)] 79)).alloc (.cells #[.int .i64 7, .int .i64 sg] 70)).alloc (.cells #[.int .i64 ((k : Int) + 1)] 3)).alloc (.cells #[.int .i64 ((k : Int) + 1 + ta.size)] 3)).cell? ⟨wr.heap.size + 1 + 1 + 1, 0, none⟩ = some (.int .i64 ((k : Int) + 1 + ta.size)) := by go_simp
    generalize ((((wr.alloc (.cells #[.pointer (some ⟨b, 0, none⟩)] 79)).alloc (.cells #[.int .i64 7, .int .i64 sg] 70)).alloc (.cells #[.int .i64 ((k : Int) + 1)] 3)).alloc (.cells #[.int .i64 ((k : Int) + 1 + ta.size)] 3)) = W4 at *
    have HS4 := Lib.hid (HS.out.more hx4); have HX4 := Lib.hid hx4; clear hx4
    have m1 := HG1.out; have m2 := HG2.out
    have off4 : ∀ w1 : World, Off g1 g2 W4 w1 → w1.cell? ⟨wr.heap.size, 0, none⟩ = some (.pointer (some ⟨b, 0, none⟩)) ∧ w1.cell? ⟨wr.heap.size + 1 + 1, 0, none⟩ = some (.int .i64 ((k : Int) + 1)) ∧ w1.cell? ⟨wr.heap.size + 1 + 1 + 1, 0, none⟩ = some (.int .i64 ((k : Int) + 1 + ta.size)) := fun w1 o =>
      ⟨o.cell z0 (by show wr.heap.size ≠ g1; omega) (by show wr.heap.size ≠ g2; omega), o.cell z6 (by show wr.heap.size + 1 + 1 ≠ g1; omega) (by show wr.heap.size + 1 + 1 ≠ g2; omega), o.cell z7 (by show wr.heap.size + 1 + 1 + 1 ≠ g1; omega) (by show wr.heap.size + 1 + 1 + 1 ≠ g2; omega)⟩
    have OFF4 := Lib.hid off4; clear off4 m1 m2
    refine (wthere_any w0 b g1 g2 _ n pc fr WA wc OA oc ins W4 s HS4.out h0 h8 sg HSR.out.1 HSR.out.2).mono ?_; rintro e w1 ⟨rfl, rfl⟩; rw [HR.out]
    go_wp2_with fail
    refine (wchoice_any b wr.heap.size _ _ false W4 z0 z6 z7 _ _ (IB.out W4 s HS4.out)).mono ?_; rintro e w1 ⟨rfl, hs1, o1⟩
    have HS1 := Lib.hid hs1; have O1 := Lib.hid o1; clear hs1 o1
    go_wp2
    go_ret
    exact ⟨by rw [← HM.out]; rfl, by rw [← HM.out]; exact HS1.out, (Off.of_ext HX4.out).trans O1.out⟩
  · rw [hr] at hM
    simp only [Bool.false_eq_true, if_false, if_true] at hM
    have HR := Lib.hid hr; have HM := Lib.hid hM; clear hr hM
    go_enter Tryd.func32, Tryd.ntmps32
    go_wp2_with fail
    refine (progOf_any _ n pc p k _ ((HP.out.keep HS.out.ext.keeps).keep (((Ext.refl wr).alloc _).alloc _).keeps) (by omega) hkn).mono ?_; rintro e w' ⟨rfl, rfl⟩; rw [HOF.out]
    go_wp2_with fail
    have hx4 : Ext wr ((((wr.alloc (.cells #[.pointer (some ⟨b, 0, none⟩)] 79)).alloc (.cells #[.int .i64 7, .int .i64 sg] 70)).alloc (.cells #[.int .i64 ((k : Int) + 1)] 3)).alloc (.cells #[.int .i64 ((k : Int) + 1 + ta.size)] 3)) := ((((Ext.refl wr).alloc _).alloc _).alloc _).alloc _
    have z0 : ((((wr.alloc (.cells #[.pointer (some ⟨b, 0, none⟩)] 79)).alloc (.cells #[.int .i64 7, .int .i64 sg] 70)).alloc (.cells #[.int .i64 ((k : Int) + 1)] 3)).alloc (.cells #[.int .i64 ((k : Int) + 1 + ta.size)] 3)).cell? ⟨wr.heap.size, 0, none⟩ = some (.pointer (some ⟨b, 0, none⟩)) := by go_simp
    have z1 : ((((wr.alloc (.cells #[.pointer (some ⟨b, 0, none⟩)] 79)).alloc (.cells #[.int .i64 7, .int .i64 sg] 70)).alloc (.cells #[.int .i64 ((k : Int) + 1)] 3)).alloc (.cells #[.int .i64 ((k : Int) + 1 + ta.size)] 3)).cell? ⟨wr.heap.size + 1, 1, none⟩ = some (.int .i64 sg) := by go_simp
    have z6 : ((((wr.alloc (.cells #[.pointer (some ⟨b, 0, none⟩)] 79)).alloc (.cells #[.int .i64 7, .int .i64 sg] 70)).alloc (.cells #[.int .i64 ((k : Int) + 1)] 3)).alloc (.cells #[.int .i64 ((k : Int) + 1 + ta.size)] 3)).cell? ⟨wr.heap.size + 1 + 1, 0, none⟩ = some (.int .i64 ((k : Int) + 1)) := by go_simp
    have z7 : ((((wr.alloc (.cells #[.pointer (some ⟨b, 0, none⟩)] 79)).alloc (.cells #[.int .i64 7, .int .i64 sg] 70)).alloc (.cells #[.int .i64 ((k : Int) + 1)] 3)).alloc (.cells #[.int .i64 ((k : Int) + 1 + ta.size)] 3)).cell? ⟨wr.heap.size + 1 + 1 + 1, 0, none⟩ = some (.int .i64 ((k : Int) + 1 + ta.size)) := by go_simp
    generalize ((((wr.alloc (.cells #[.pointer (some ⟨b, 0, none⟩)] 79)).alloc (.cells #[.int .i64 7, .int .i64 sg] 70)).alloc (.cells #[.int .i64 ((k : Int) + 1)] 3)).alloc (.cells #[.int .i64 ((k : Int) + 1 + ta.size)] 3)) = W4 at *
    have HS4 := Lib.hid (HS.out.more hx4); have HX4 := Lib.hid hx4; clear hx4
    have m1 := HG1.out; have m2 := HG2.out
    have off4 : ∀ w1 : World, Off g1 g2 W4 w1 → w1.cell? ⟨wr.heap.size, 0, none⟩ = some (.pointer (some ⟨b, 0, none⟩)) ∧ w1.cell? ⟨wr.heap.size + 1 + 1, 0, none⟩ = some (.int .i64 ((k : Int) + 1)) ∧ w1.cell? ⟨wr.heap.size + 1 + 1 + 1, 0, none⟩ = some (.int .i64 ((k : Int) + 1 + ta.size)) := fun w1 o =>
      ⟨o.cell z0 (by show wr.heap.size ≠ g1; omega) (by show wr.heap.size ≠ g2; omega), o.cell z6 (by show wr.heap.size + 1 + 1 ≠ g1; omega) (by show wr.heap.size + 1 + 1 ≠ g2; omega), o.cell z7 (by show wr.heap.size + 1 + 1 + 1 ≠ g1; omega) (by show wr.heap.size + 1 + 1 + 1 ≠ g2; omega)⟩
    have OFF4 := Lib.hid off4; clear off4 m1 m2
    refine (wthere_any w0 b g1 g2 _ n pc fr WA wc OA oc ins W4 s HS4.out h0 h8 sg HSR.out.1 HSR.out.2).mono ?_; rintro e w1 ⟨rfl, rfl⟩; rw [HR.out]
    go_wp2_with fail
    refine (wchoice_any b wr.heap.size _ _ true W4 z0 z6 z7 _ _ (IA.out W4 s HS4.out)).mono ?_; rintro e w1 ⟨rfl, hs1, o1⟩
    have HS1 := Lib.hid hs1; have O1 := Lib.hid o1; clear hs1 o1
    go_wp2
    go_ret
    exact ⟨by rw [← HM.out]; rfl, by rw [← HM.out]; exact HS1.out, (Off.of_ext HX4.out).trans O1.out⟩
set_option maxRecDepth 100000 in
set_option maxHeartbeats 8000000 in
theorem wbegin_was (hp : SlN w0 PA n p) (hO : Sl w0 OA 3 (outs.map Bv)) (hn : n ≤ 14) (sg : Int) (ta tb : Tr) (k : Nat) (ht : TreeAt p k (.two ⟨8, sg⟩ ta tb)) (ok : (Tr.two ⟨8, sg⟩ ta tb).ok) (hsr : 0 ≤ sg ∧ sg ≤ 2)
    (ia : BeginOK w0 b g1 g2 PA n pc fr WA wc OA oc ins outs ta (k + 1)) (ib : BeginOK w0 b g1 g2 PA n pc fr WA wc OA oc ins outs tb (k + 1 + ta.size)) :
    BeginOK w0 b g1 g2 PA n pc fr WA wc OA oc ins outs (.two ⟨8, sg⟩ ta tb) k := by
  intro wr s h
  have hle := ht.le
  have hpl := hp.1
  have hkn : k < n := by simp [Tr.size] at hle; omega
  have hof := ht.of_two ok
  have htop := ht.top
  obtain ⟨pb, poff, y, rfl, d0, d1, -, hy⟩ := hp.next hkn
  have hyx : y = ⟨8, sg⟩ := by rw [htop] at hy; injection hy with hy; exact hy.symm
  subst hyx
  have c0 := h.c0
  have hbl := lt_of_cell c0
  have e0 := h.ext.keeps _ _ d0; have e1 := h.ext.keeps _ _ d1
  have hpl2 := lt_of_cell e0
  have hg1 : g1 < wr.heap.size := (h.W.lt g1 rfl).2
  have hg2 : g2 < wr.heap.size := (h.O.lt g2 rfl).2
  have HP := Lib.hid hp; have HOF := Lib.hid hof; have HS := Lib.hid h; have HG1 := Lib.hid hg1; have HG2 := Lib.hid hg2; have HSR := Lib.hid hsr
  have ca : ∀ (wr : World) (s : StM), WSt w0 b g1 g2 (some ⟨pb, poff, none⟩) n pc fr WA wc OA oc ins wr s → Calls Tryd.prog 32 #[.pointer (some ⟨b, 0, none⟩), .int .i64 ((k : Int) + 1)] wr fun e w' => e = .returned (.bool (beginT (thereM ins) (wasM outs) ta (k + 1) s).1) ∧
      (WSt w0 b g1 g2 (some ⟨pb, poff, none⟩) n pc fr WA wc OA oc ins w' (beginT (thereM ins) (wasM outs) ta (k + 1) s).2 ∧ Off g1 g2 wr w') := fun wr s h => by
    have := ia wr s h; rwa [show ((k + 1 : Nat) : Int) = (k : Int) + 1 from by omega] at this
  have cb : ∀ (wr : World) (s : StM), WSt w0 b g1 g2 (some ⟨pb, poff, none⟩) n pc fr WA wc OA oc ins wr s → Calls Tryd.prog 32 #[.pointer (some ⟨b, 0, none⟩), .int .i64 ((k : Int) + 1 + ta.size)] wr fun e w' => e = .returned (.bool (beginT (thereM ins) (wasM outs) tb (k + 1 + ta.size) s).1) ∧
      (WSt w0 b g1 g2 (some ⟨pb, poff, none⟩) n pc fr WA wc OA oc ins w' (beginT (thereM ins) (wasM outs) tb (k + 1 + ta.size) s).2 ∧ Off g1 g2 wr w') := fun wr s h => by
    have := ib wr s h; rwa [show ((k + 1 + ta.size : Nat) : Int) = (k : Int) + 1 + ta.size from by omega] at this
  have IA := Lib.hid ca; have IB := Lib.hid cb; clear ca cb
  generalize hM : beginT (thereM ins) (wasM outs) (.two ⟨8, sg⟩ ta tb) k s = M
  simp only [beginT, choiceM, Int.reduceEq, if_true, if_false] at hM
  clear hp hof h ht ok hle hpl htop hy d0 d1 ia ib hg1 hg2 hsr
  generalize hnx : (k : Int) + (Tr.two ⟨8, sg⟩ ta tb).size = beh at *
  clear hnx
  have hOl := hO.len
  obtain ⟨sn, rfl⟩ := Int.eq_ofNat_of_zero_le HSR.out.1
  have hsn : sn < 3 := by have := HSR.out.2; omega
  obtain ⟨ob, ooff, u, rfl, hcu0, hu⟩ := hO.at_ hsn
  have hws : wasM outs (sn : Int) = u := by simp [wasM, hu]
  have HCU := Lib.hid hcu0
  have hq0 : (0 : Int) ≤ (sn : Int) := by omega
  have hq3 : (sn : Int) < 3 := by omega
  clear hO hOl hcu0 hu
  rw [hws] at hM
  clear hws
  cases u
  · simp only [Bool.false_eq_true, if_false, if_true] at hM
    have HM := Lib.hid hM; clear hM
    go_enter Tryd.func32, Tryd.ntmps32
    go_wp2_with fail
    refine (progOf_any _ n pc p k _ ((HP.out.keep HS.out.ext.keeps).keep (((Ext.refl wr).alloc _).alloc _).keeps) (by omega) hkn).mono ?_; rintro e w' ⟨rfl, rfl⟩; rw [HOF.out]
    go_wp2_with fail
    have hx4 : Ext wr ((((wr.alloc (.cells #[.pointer (some ⟨b, 0, none⟩)] 79)).alloc (.cells #[.int .i64 8, .int .i64 (sn : Int)] 70)).alloc (.cells #[.int .i64 ((k : Int) + 1)] 3)).alloc (.cells #[.int .i64 ((k : Int) + 1 + ta.size)] 3)) := ((((Ext.refl wr).alloc _).alloc _).alloc _).alloc _
    have z0 : ((((wr.alloc (.cells #[.pointer (some ⟨b, 0, none⟩)] 79)).alloc (.cells #[.int .i64 8, .int .i64 (sn : Int)] 70)).alloc (.cells #[.int .i64 ((k : Int) + 1)] 3)).alloc (.cells #[.int .i64 ((k : Int) + 1 + ta.size)] 3)).cell? ⟨wr.heap.size, 0, none⟩ = some (.pointer (some ⟨b, 0, none⟩)) := by go_simp
    have z1 : ((((wr.alloc (.cells #[.pointer (some ⟨b, 0, none⟩)] 79)).alloc (.cells #[.int .i64 8, .int .i64 (sn : Int)] 70)).alloc (.cells #[.int .i64 ((k : Int) + 1)] 3)).alloc (.cells #[.int .i64 ((k : Int) + 1 + ta.size)] 3)).cell? ⟨wr.heap.size + 1, 1, none⟩ = some (.int .i64 (sn : Int)) := by go_simp
    have z6 : ((((wr.alloc (.cells #[.pointer (some ⟨b, 0, none⟩)] 79)).alloc (.cells #[.int .i64 8, .int .i64 (sn : Int)] 70)).alloc (.cells #[.int .i64 ((k : Int) + 1)] 3)).alloc (.cells #[.int .i64 ((k : Int) + 1 + ta.size)] 3)).cell? ⟨wr.heap.size + 1 + 1, 0, none⟩ = some (.int .i64 ((k : Int) + 1)) := by go_simp
    have z7 : ((((wr.alloc (.cells #[.pointer (some ⟨b, 0, none⟩)] 79)).alloc (.cells #[.int .i64 8, .int .i64 (sn : Int)] 70)).alloc (.cells #[.int .i64 ((k : Int) + 1)] 3)).alloc (.cells #[.int .i64 ((k : Int) + 1 + ta.size)] 3)).cell? ⟨wr.heap.size + 1 + 1 + 1, 0, none⟩ = some (.int .i64 ((k : Int) + 1 + ta.size)) := by go_simp
    generalize ((((wr.alloc (.cells #[.pointer (some ⟨b, 0, none⟩)] 79)).alloc (.cells #[.int .i64 8, .int .i64 (sn : Int)] 70)).alloc (.cells #[.int .i64 ((k : Int) + 1)] 3)).alloc (.cells #[.int .i64 ((k : Int) + 1 + ta.size)] 3)) = W4 at *
    have HS4 := Lib.hid (HS.out.more hx4); have HX4 := Lib.hid hx4; clear hx4
    have m1 := HG1.out; have m2 := HG2.out
    have off4 : ∀ w1 : World, Off g1 g2 W4 w1 → w1.cell? ⟨wr.heap.size, 0, none⟩ = some (.pointer (some ⟨b, 0, none⟩)) ∧ w1.cell? ⟨wr.heap.size + 1 + 1, 0, none⟩ = some (.int .i64 ((k : Int) + 1)) ∧ w1.cell? ⟨wr.heap.size + 1 + 1 + 1, 0, none⟩ = some (.int .i64 ((k : Int) + 1 + ta.size)) := fun w1 o =>
      ⟨o.cell z0 (by show wr.heap.size ≠ g1; omega) (by show wr.heap.size ≠ g2; omega), o.cell z6 (by show wr.heap.size + 1 + 1 ≠ g1; omega) (by show wr.heap.size + 1 + 1 ≠ g2; omega), o.cell z7 (by show wr.heap.size + 1 + 1 + 1 ≠ g1; omega) (by show wr.heap.size + 1 + 1 + 1 ≠ g2; omega)⟩
    have OFF4 := Lib.hid off4; clear off4 m1 m2
    have y3 := HS4.out.c3
    have yo := HS4.out.ext.keeps _ _ HCU.out
    go_still_tail 10, (by kernel_rfl)
    change wpList _ _ _ _ _ W4.drew
    go_wp2_with fail
    refine (wchoice_any b wr.heap.size _ _ false W4.drew z0 z6 z7 _ _ (IB.out W4.drew s (HS4.out.more ((Ext.refl W4).drew)))).mono ?_; rintro e w1 ⟨rfl, hs1, o1⟩
    have HS1 := Lib.hid hs1; have O1 := Lib.hid o1; clear hs1 o1
    go_wp2
    go_ret
    exact ⟨by rw [← HM.out]; rfl, by rw [← HM.out]; exact HS1.out, (Off.of_ext (HX4.out.trans ((Ext.refl W4).drew))).trans O1.out⟩
  · simp only [Bool.false_eq_true, if_false, if_true] at hM
    have HM := Lib.hid hM; clear hM
    go_enter Tryd.func32, Tryd.ntmps32
    go_wp2_with fail
    refine (progOf_any _ n pc p k _ ((HP.out.keep HS.out.ext.keeps).keep (((Ext.refl wr).alloc _).alloc _).keeps) (by omega) hkn).mono ?_; rintro e w' ⟨rfl, rfl⟩; rw [HOF.out]
    go_wp2_with fail
    have hx4 : Ext wr ((((wr.alloc (.cells #[.pointer (some ⟨b, 0, none⟩)] 79)).alloc (.cells #[.int .i64 8, .int .i64 (sn : Int)] 70)).alloc (.cells #[.int .i64 ((k : Int) + 1)] 3)).alloc (.cells #[.int .i64 ((k : Int) + 1 + ta.size)] 3)) := ((((Ext.refl wr).alloc _).alloc _).alloc _).alloc _
    have z0 : ((((wr.alloc (.cells #[.pointer (some ⟨b, 0, none⟩)] 79)).alloc (.cells #[.int .i64 8, .int .i64 (sn : Int)] 70)).alloc (.cells #[.int .i64 ((k : Int) + 1)] 3)).alloc (.cells #[.int .i64 ((k : Int) + 1 + ta.size)] 3)).cell? ⟨wr.heap.size, 0, none⟩ = some (.pointer (some ⟨b, 0, none⟩)) := by go_simp
    have z1 : ((((wr.alloc (.cells #[.pointer (some ⟨b, 0, none⟩)] 79)).alloc (.cells #[.int .i64 8, .int .i64 (sn : Int)] 70)).alloc (.cells #[.int .i64 ((k : Int) + 1)] 3)).alloc (.cells #[.int .i64 ((k : Int) + 1 + ta.size)] 3)).cell? ⟨wr.heap.size + 1, 1, none⟩ = some (.int .i64 (sn : Int)) := by go_simp
    have z6 : ((((wr.alloc (.cells #[.pointer (some ⟨b, 0, none⟩)] 79)).alloc (.cells #[.int .i64 8, .int .i64 (sn : Int)] 70)).alloc (.cells #[.int .i64 ((k : Int) + 1)] 3)).alloc (.cells #[.int .i64 ((k : Int) + 1 + ta.size)] 3)).cell? ⟨wr.heap.size + 1 + 1, 0, none⟩ = some (.int .i64 ((k : Int) + 1)) := by go_simp
    have z7 : ((((wr.alloc (.cells #[.pointer (some ⟨b, 0, none⟩)] 79)).alloc (.cells #[.int .i64 8, .int .i64 (sn : Int)] 70)).alloc (.cells #[.int .i64 ((k : Int) + 1)] 3)).alloc (.cells #[.int .i64 ((k : Int) + 1 + ta.size)] 3)).cell? ⟨wr.heap.size + 1 + 1 + 1, 0, none⟩ = some (.int .i64 ((k : Int) + 1 + ta.size)) := by go_simp
    generalize ((((wr.alloc (.cells #[.pointer (some ⟨b, 0, none⟩)] 79)).alloc (.cells #[.int .i64 8, .int .i64 (sn : Int)] 70)).alloc (.cells #[.int .i64 ((k : Int) + 1)] 3)).alloc (.cells #[.int .i64 ((k : Int) + 1 + ta.size)] 3)) = W4 at *
    have HS4 := Lib.hid (HS.out.more hx4); have HX4 := Lib.hid hx4; clear hx4
    have m1 := HG1.out; have m2 := HG2.out
    have off4 : ∀ w1 : World, Off g1 g2 W4 w1 → w1.cell? ⟨wr.heap.size, 0, none⟩ = some (.pointer (some ⟨b, 0, none⟩)) ∧ w1.cell? ⟨wr.heap.size + 1 + 1, 0, none⟩ = some (.int .i64 ((k : Int) + 1)) ∧ w1.cell? ⟨wr.heap.size + 1 + 1 + 1, 0, none⟩ = some (.int .i64 ((k : Int) + 1 + ta.size)) := fun w1 o =>
      ⟨o.cell z0 (by show wr.heap.size ≠ g1; omega) (by show wr.heap.size ≠ g2; omega), o.cell z6 (by show wr.heap.size + 1 + 1 ≠ g1; omega) (by show wr.heap.size + 1 + 1 ≠ g2; omega), o.cell z7 (by show wr.heap.size + 1 + 1 + 1 ≠ g1; omega) (by show wr.heap.size + 1 + 1 + 1 ≠ g2; omega)⟩
    have OFF4 := Lib.hid off4; clear off4 m1 m2
    have y3 := HS4.out.c3
    have yo := HS4.out.ext.keeps _ _ HCU.out
    go_still_tail 10, (by kernel_rfl)
    change wpList _ _ _ _ _ W4.drew
    go_wp2_with fail
    refine (wchoice_any b wr.heap.size _ _ true W4.drew z0 z6 z7 _ _ (IA.out W4.drew s (HS4.out.more ((Ext.refl W4).drew)))).mono ?_; rintro e w1 ⟨rfl, hs1, o1⟩
    have HS1 := Lib.hid hs1; have O1 := Lib.hid o1; clear hs1 o1
    go_wp2
    go_ret
    exact ⟨by rw [← HM.out]; rfl, by rw [← HM.out]; exact HS1.out, (Off.of_ext (HX4.out.trans ((Ext.refl W4).drew))).trans O1.out⟩
theorem wbegin_any (hp : SlN w0 PA n p) (hO : Sl w0 OA 3 (outs.map Bv)) (hn : n ≤ 14) (h0 : 0 ≤ ins) (h8 : ins < 8) : ∀ (t : Tr) (k : Nat), TreeAt p k t → t.ok → (∀ x ∈ t.flat, goodN x) → BeginOK w0 b g1 g2 PA n pc fr WA wc OA oc ins outs t k
  | .leaf x, k, ht, ok, hg => fun wr s h => wbegin_leaf w0 b g1 g2 PA n pc fr WA wc OA oc ins p outs hp hn x k wr s ht ok (hg x (by simp [Tr.flat])) h
  | .two ⟨kd, sg⟩ ta tb, k, ht, ok, hg => by
    have hgs := sub_good hg
    have hx := hg ⟨kd, sg⟩ (by simp [Tr.flat])
    have hsr := leaf_sig' hx
    have ia := wbegin_any hp hO hn h0 h8 ta (k + 1) ht.first ok.2.1 hgs.1
    have ib := wbegin_any hp hO hn h0 h8 tb (k + 1 + ta.size) ht.second ok.2.2 hgs.2
    rcases good_two' ok.1 hx with e | e | e | e
    · simp only at e; subst e; exact wbegin_seq w0 b g1 g2 PA n pc fr WA wc OA oc ins p outs hp hn sg ta tb k ht ok hsr ia ib
    · simp only at e; subst e; exact wbegin_par w0 b g1 g2 PA n pc fr WA wc OA oc ins p outs hp hn sg ta tb k ht ok hsr ia ib
    · simp only at e; subst e; exact wbegin_if w0 b g1 g2 PA n pc fr WA wc OA oc ins p outs hp h0 h8 hn sg ta tb k ht ok hsr ia ib
    · simp only at e; subst e; exact wbegin_was w0 b g1 g2 PA n pc fr WA wc OA oc ins p outs hp hO hn sg ta tb k ht ok hsr ia ib
end
end Go.Proofs.YtgohhcnmkomafaaDoor
/- The walker's on walked. -/
namespace Go.Proofs.YtgohhcnmkomafaaDoor
set_option linter.unusedVariables false
set_option linter.unusedSimpArgs false
open Go.RowKit
def partT (th wa : Int → Bool) (V : List Bool) (t : Tr) (k : Nat) (s : StM) : Bool × StM := if someT V t k then onT th wa V t k s else (true, s)
theorem onT_parts (th wa : Int → Bool) (V : List Bool) (x : PNode) (a b : Tr) (k : Nat) (s : StM) (hx : ¬ x.kind = 5) :
    onT th wa V (.two x a b) k s = ((partT th wa V a (k + 1) s).1 && (partT th wa V b (k + 1 + a.size) (partT th wa V a (k + 1) s).2).1, (partT th wa V b (k + 1 + a.size) (partT th wa V a (k + 1) s).2).2) := by
  simp only [onT, if_neg hx, partT]
  cases someT V a (k + 1) <;> cases someT V b (k + 1 + a.size) <;> simp
section
variable (w0 : World) (b g1 g2 : Nat) (PA : Option Addr) (n pc : Nat) (fr : Bool) (WA : Option Addr) (wc : Nat) (OA : Option Addr) (oc : Nat) (ins : Int) (p : List PNode) (outs V : List Bool)
/-- What is told of on. -/
def OnOK (t : Tr) (k : Nat) : Prop := ∀ (wr : World) (s : StM), WSt w0 b g1 g2 PA n pc fr WA wc OA oc ins wr s → someT V t k = true →
  Calls Tryd.prog 34 #[.pointer (some ⟨b, 0, none⟩), I k] wr fun e w' => e = .returned (.bool (onT (thereM ins) (wasM outs) V t k s).1) ∧
      (WSt w0 b g1 g2 PA n pc fr WA wc OA oc ins w' (onT (thereM ins) (wasM outs) V t k s).2 ∧ Off g1 g2 wr w')
set_option maxRecDepth 100000 in
set_option maxHeartbeats 4000000 in
theorem won_leaf (hp : SlN w0 PA n p) (hn : n ≤ 14) (h0 : 0 ≤ ins) (h8 : ins < 8) (hVk : waitsOK p V) (x : PNode) (k : Nat) (ht : TreeAt p k (.leaf x)) (ok : (Tr.leaf x).ok) (hg : goodN x) : OnOK w0 b g1 g2 PA n pc fr WA wc OA oc ins outs V (.leaf x) k := by
  intro wr s h hso
  have hle := ht.le
  have hpl := hp.1
  have hkn : k < n := by simp [Tr.size] at hle; omega
  have hsr := leaf_sig' hg
  have htop := ht.top
  have hw : waitK x.kind = true := by
    obtain ⟨y, h1, h2⟩ := hVk k (some_leaf hso)
    rw [htop] at h1; injection h1 with h1; rw [← h1] at h2; exact h2
  have hk : x.kind = 1 ∨ x.kind = 2 ∨ x.kind = 4 := by simpa [waitK, or_assoc] using hw
  obtain ⟨pb, poff, y, rfl, d0, d1, -, hy⟩ := hp.next hkn
  have hyx : y = x := by rw [htop] at hy; injection hy with hy; exact hy.symm
  subst hyx
  have c0 := h.c0
  have hbl := lt_of_cell c0
  have e0 := h.ext.keeps _ _ d0; have e1 := h.ext.keeps _ _ d1
  have hpl2 := lt_of_cell e0
  have HS := Lib.hid h; have HSR := Lib.hid hsr
  obtain ⟨kd, sg⟩ := y
  generalize hM : onT (thereM ins) (wasM outs) V (.leaf ⟨kd, sg⟩) k s = M
  simp only [onT] at hM
  clear hp h ht ok hg hle hpl htop hy d0 d1 hVk hw hso hsr
  rcases hk with rfl | rfl | rfl
  · have HM := Lib.hid hM; clear hM
    go_enter Tryd.func34, Tryd.ntmps34
    go_wp2
    go_ret
    exact ⟨by rw [← HM.out]; rfl, by rw [← HM.out]; exact HS.out.more ((Ext.refl wr).alloc _), .of_ext ((Ext.refl wr).alloc _)⟩
  · have HM := Lib.hid hM; clear hM
    go_enter Tryd.func34, Tryd.ntmps34
    go_wp2_with fail
    have hx1 := (Ext.refl wr).alloc (.cells #[.int .i64 2, .int .i64 sg] 70)
    refine (wwait_any w0 b g1 g2 _ n pc fr WA wc OA oc ins _ s (HS.out.more hx1) k hkn).mono ?_; rintro e w' ⟨rfl, rfl⟩
    go_wp2
    go_ret
    exact ⟨by rw [← HM.out]; rfl, by rw [← HM.out]; exact (HS.out.more hx1).setW k, (Off.of_ext hx1).set1 k _⟩
  · simp only [Int.reduceEq, if_false] at hM
    have hx1 := (Ext.refl wr).alloc (.cells #[.int .i64 4, .int .i64 sg] 70)
    cases hr : thereM ins sg
    · rw [hr] at hM
      simp only [Bool.false_eq_true, if_false] at hM
      have HM := Lib.hid hM; have HR := Lib.hid hr; clear hM hr
      go_enter Tryd.func34, Tryd.ntmps34
      go_wp2_with fail
      refine (wthere_any w0 b g1 g2 _ n pc fr WA wc OA oc ins _ s (HS.out.more hx1) h0 h8 sg HSR.out.1 HSR.out.2).mono ?_; rintro e w1 ⟨rfl, rfl⟩; rw [HR.out]
      go_wp2_with fail
      refine (wwait_any w0 b g1 g2 _ n pc fr WA wc OA oc ins _ s (HS.out.more hx1) k hkn).mono ?_; rintro e w' ⟨rfl, rfl⟩
      go_wp2
      go_ret
      exact ⟨by rw [← HM.out]; rfl, by rw [← HM.out]; exact (HS.out.more hx1).setW k, (Off.of_ext hx1).set1 k _⟩
    · rw [hr] at hM
      simp only [if_true] at hM
      have HM := Lib.hid hM; have HR := Lib.hid hr; clear hM hr
      go_enter Tryd.func34, Tryd.ntmps34
      go_wp2_with fail
      refine (wthere_any w0 b g1 g2 _ n pc fr WA wc OA oc ins _ s (HS.out.more hx1) h0 h8 sg HSR.out.1 HSR.out.2).mono ?_; rintro e w1 ⟨rfl, rfl⟩; rw [HR.out]
      go_wp2
      go_ret
      exact ⟨by rw [← HM.out]; rfl, by rw [← HM.out]; exact HS.out.more hx1, Off.of_ext hx1⟩
set_option maxRecDepth 100000 in
set_option maxHeartbeats 8000000 in
theorem won_seq (hp : SlN w0 PA n p) (hV : Sl w0 WA n (V.map Bv)) (hwc : n ≤ wc) (hn : n ≤ 14) (sg : Int) (ta tb : Tr) (k : Nat) (ht : TreeAt p k (.two ⟨5, sg⟩ ta tb)) (ok : (Tr.two ⟨5, sg⟩ ta tb).ok) (hsb : someT V (.two ⟨5, sg⟩ ta tb) k = true → someT V ta (k + 1) = true ∨ someT V tb (k + 1 + ta.size) = true)
    (ia : OnOK w0 b g1 g2 PA n pc fr WA wc OA oc ins outs V ta (k + 1)) (ib : OnOK w0 b g1 g2 PA n pc fr WA wc OA oc ins outs V tb (k + 1 + ta.size)) (jb : BeginOK w0 b g1 g2 PA n pc fr WA wc OA oc ins outs tb (k + 1 + ta.size)) :
    OnOK w0 b g1 g2 PA n pc fr WA wc OA oc ins outs V (.two ⟨5, sg⟩ ta tb) k := by
  intro wr s h hso
  have hor := hsb hso
  have hle := ht.le
  have hpl := hp.1
  have hkn : k < n := by simp [Tr.size] at hle; omega
  have hof := ht.of_two ok
  have htop := ht.top
  have sa := fun W s' hw => wsome_any w0 b g1 g2 PA n pc fr WA wc OA oc ins W s' hw p V hp hV hwc hn (k + 1) ta ht.first ok.2.1
  rw [show ((k + 1 : Nat) : Int) = (k : Int) + 1 from by omega] at sa
  have SA := Lib.hid sa; clear sa
  obtain ⟨pb, poff, y, rfl, d0, d1, -, hy⟩ := hp.next hkn
  have hyx : y = ⟨5, sg⟩ := by rw [htop] at hy; injection hy with hy; exact hy.symm
  subst hyx
  have c0 := h.c0
  have hbl := lt_of_cell c0
  have e0 := h.ext.keeps _ _ d0; have e1 := h.ext.keeps _ _ d1
  have hpl2 := lt_of_cell e0
  have ca := fun W s' hw hs => ia W s' hw hs
  have cb := fun W s' hw hs => ib W s' hw hs
  have cj := fun W s' hw => jb W s' hw
  rw [show ((k + 1 : Nat) : Int) = (k : Int) + 1 from by omega] at ca
  rw [show ((k + 1 + ta.size : Nat) : Int) = (k : Int) + 1 + ta.size from by omega] at cb cj
  have IA := Lib.hid ca; have IB := Lib.hid cb; have JB := Lib.hid cj
  have HP := Lib.hid hp; have HOF := Lib.hid hof; have HS := Lib.hid h
  have hx1 := (Ext.refl wr).alloc (.cells #[.int .i64 5, .int .i64 sg] 70)
  generalize hM : onT (thereM ins) (wasM outs) V (.two ⟨5, sg⟩ ta tb) k s = M
  simp only [onT, if_true] at hM
  clear ca cb cj hp hof h ht ok hle hpl htop hy d0 d1 ia ib jb hso hsb hV
  generalize hnx : (k : Int) + (Tr.two ⟨5, sg⟩ ta tb).size = beh at *
  clear hnx
  cases hsa : someT V ta (k + 1)
  · rw [hsa] at hM hor
    have hsb : someT V tb (k + 1 + ta.size) = true := by simpa using hor
    simp only [Bool.false_eq_true, if_false] at hM
    have HM := Lib.hid hM; have HSA := Lib.hid hsa; have HSB := Lib.hid hsb; clear hM hsa hsb hor
    go_enter Tryd.func34, Tryd.ntmps34
    go_wp2_with fail
    refine (progOf_any _ n pc p k _ ((HP.out.keep HS.out.ext.keeps).keep hx1.keeps) (by omega) hkn).mono ?_; rintro e w' ⟨rfl, rfl⟩; rw [HOF.out]
    go_wp2_with fail
    refine (SA.out _ s (HS.out.more hx1)).mono ?_; rintro e w1 ⟨rfl, rfl⟩; rw [HSA.out]
    go_wp2_with fail
    refine (IB.out _ s (HS.out.more hx1) HSB.out).mono ?_; rintro e w1 ⟨rfl, hs1, o1⟩
    have HS1 := Lib.hid hs1; have O1 := Lib.hid o1; clear hs1 o1
    go_wp2
    go_ret
    exact ⟨by rw [← HM.out]; rfl, by rw [← HM.out]; exact HS1.out, (Off.of_ext hx1).trans O1.out⟩
  · rw [hsa] at hM
    simp only [if_true] at hM
    clear hor
    have HSA := Lib.hid hsa; clear hsa
    cases hr : (onT (thereM ins) (wasM outs) V ta (k + 1) s).1
    · rw [hr] at hM
      have HR := Lib.hid hr; have HM := Lib.hid hM; clear hr hM
      go_enter Tryd.func34, Tryd.ntmps34
      go_wp2_with fail
      refine (progOf_any _ n pc p k _ ((HP.out.keep HS.out.ext.keeps).keep hx1.keeps) (by omega) hkn).mono ?_; rintro e w' ⟨rfl, rfl⟩; rw [HOF.out]
      go_wp2_with fail
      refine (SA.out _ s (HS.out.more hx1)).mono ?_; rintro e w1 ⟨rfl, rfl⟩; rw [HSA.out]
      go_wp2_with fail
      refine (IA.out _ s (HS.out.more hx1) HSA.out).mono ?_; rintro e w1 ⟨rfl, hs1, o1⟩; rw [HR.out]
      have HS1 := Lib.hid hs1; have O1 := Lib.hid o1; clear hs1 o1
      go_wp2
      go_ret
      exact ⟨by rw [← HM.out]; rfl, by rw [← HM.out]; exact HS1.out, (Off.of_ext hx1).trans O1.out⟩
    · rw [hr] at hM
      have HR := Lib.hid hr; have HM := Lib.hid hM; clear hr hM
      go_enter Tryd.func34, Tryd.ntmps34
      go_wp2_with fail
      refine (progOf_any _ n pc p k _ ((HP.out.keep HS.out.ext.keeps).keep hx1.keeps) (by omega) hkn).mono ?_; rintro e w' ⟨rfl, rfl⟩; rw [HOF.out]
      go_wp2_with fail
      refine (SA.out _ s (HS.out.more hx1)).mono ?_; rintro e w1 ⟨rfl, rfl⟩; rw [HSA.out]
      go_wp2_with fail
      refine (IA.out _ s (HS.out.more hx1) HSA.out).mono ?_; rintro e w1 ⟨rfl, hs1, o1⟩; rw [HR.out]
      have HS1 := Lib.hid hs1; have O1 := Lib.hid o1; clear hs1 o1
      go_wp2_with fail
      refine (JB.out w1 _ HS1.out).mono ?_; rintro e w2 ⟨rfl, hs2, o2⟩
      have HS2 := Lib.hid hs2; have O2 := Lib.hid o2; clear hs2 o2
      go_wp2
      go_ret
      exact ⟨by rw [← HM.out]; rfl, by rw [← HM.out]; exact HS2.out, ((Off.of_ext hx1).trans O1.out).trans O2.out⟩
set_option maxRecDepth 100000 in
set_option maxHeartbeats 16000000 in
theorem won_par (hp : SlN w0 PA n p) (hV : Sl w0 WA n (V.map Bv)) (hwc : n ≤ wc) (hn : n ≤ 14) (kd sg : Int) (hk6 : 6 ≤ kd) (ta tb : Tr) (k : Nat) (ht : TreeAt p k (.two ⟨kd, sg⟩ ta tb)) (ok : (Tr.two ⟨kd, sg⟩ ta tb).ok)
    (ia : OnOK w0 b g1 g2 PA n pc fr WA wc OA oc ins outs V ta (k + 1)) (ib : OnOK w0 b g1 g2 PA n pc fr WA wc OA oc ins outs V tb (k + 1 + ta.size)) :
    OnOK w0 b g1 g2 PA n pc fr WA wc OA oc ins outs V (.two ⟨kd, sg⟩ ta tb) k := by
  intro wr s h hso
  have hle := ht.le
  have hpl := hp.1
  have hkn : k < n := by simp [Tr.size] at hle; omega
  have hof := ht.of_two ok
  have htop := ht.top
  have sa := fun W s' hw => wsome_any w0 b g1 g2 PA n pc fr WA wc OA oc ins W s' hw p V hp hV hwc hn (k + 1) ta ht.first ok.2.1
  have sb := fun W s' hw => wsome_any w0 b g1 g2 PA n pc fr WA wc OA oc ins W s' hw p V hp hV hwc hn (k + 1 + ta.size) tb ht.second ok.2.2
  rw [show ((k + 1 : Nat) : Int) = (k : Int) + 1 from by omega] at sa
  rw [show ((k + 1 + ta.size : Nat) : Int) = (k : Int) + 1 + ta.size from by omega] at sb
  have SA := Lib.hid sa; have SB := Lib.hid sb; clear sa sb
  obtain ⟨pb, poff, y, rfl, d0, d1, -, hy⟩ := hp.next hkn
  have hyx : y = ⟨kd, sg⟩ := by rw [htop] at hy; injection hy with hy; exact hy.symm
  subst hyx
  have c0 := h.c0
  have hbl := lt_of_cell c0
  have e0 := h.ext.keeps _ _ d0; have e1 := h.ext.keeps _ _ d1
  have hpl2 := lt_of_cell e0
  have ca := fun W s' hw hs => ia W s' hw hs
  have cb := fun W s' hw hs => ib W s' hw hs
  rw [show ((k + 1 : Nat) : Int) = (k : Int) + 1 from by omega] at ca
  rw [show ((k + 1 + ta.size : Nat) : Int) = (k : Int) + 1 + ta.size from by omega] at cb
  have IA := Lib.hid ca; have IB := Lib.hid cb
  have HP := Lib.hid hp; have HOF := Lib.hid hof; have HS := Lib.hid h
  have hx1 := (Ext.refl wr).alloc (.cells #[.int .i64 kd, .int .i64 sg] 70)
  have HX1 := Lib.hid hx1
  generalize hM : onT (thereM ins) (wasM outs) V (.two ⟨kd, sg⟩ ta tb) k s = M
  rw [onT_parts _ _ _ _ _ _ _ _ (by simp only; omega)] at hM
  have t1 : (kd == 1) = false := by simp; omega
  have t2 : (kd == 2) = false := by simp; omega
  have t4 : (kd == 4) = false := by simp; omega
  have t5 : (kd == 5) = false := by simp; omega
  generalize hA : partT (thereM ins) (wasM outs) V ta (k + 1) s = A at hM
  generalize hB : partT (thereM ins) (wasM outs) V tb (k + 1 + ta.size) A.2 = B at hM
  have HM := Lib.hid hM; have HA := Lib.hid hA; have HB := Lib.hid hB
  clear ca cb hp hof h ht ok hle hpl htop hy d0 d1 ia ib hso hV hM hA hB hx1
  generalize hnx : (k : Int) + (Tr.two ⟨kd, sg⟩ ta tb).size = beh at *
  clear hnx
  have i0 : ∀ W, (Instr.index 99 (.agg #[.int .i64 ((k : Int) + 1), .int .i64 ((k : Int) + 1 + ta.size)]) (.int .i64 0)).run Tryd.prog W = .ok (.int .i64 ((k : Int) + 1)) W := fun _ => by kernel_rfl
  have i1 : ∀ W, (Instr.index 99 (.agg #[.int .i64 ((k : Int) + 1), .int .i64 ((k : Int) + 1 + ta.size)]) (.int .i64 1)).run Tryd.prog W = .ok (.int .i64 ((k : Int) + 1 + ta.size)) W := fun _ => by kernel_rfl
  go_enter Tryd.func34, Tryd.ntmps34
  go_wp2_with fail
  refine (progOf_any _ n pc p k _ ((HP.out.keep HS.out.ext.keeps).keep HX1.out.keeps) (by omega) hkn).mono ?_; rintro e w' ⟨rfl, rfl⟩; rw [HOF.out]
  go_wp2
  go_loopw [9, 11, 69] (fun o _ j wr' => ∃ (ob : Bool) (st : StM), o = .bool ob ∧ WSt w0 b g1 g2 (some ⟨pb, poff, none⟩) n pc fr WA wc OA oc ins wr' st ∧ Off g1 g2 wr wr' ∧
      ((j = .int .i64 0 ∧ ob = true ∧ st = s) ∨ (j = .int .i64 1 ∧ ob = A.1 ∧ st = A.2) ∨ (j = .int .i64 2 ∧ ob = (A.1 && B.1) ∧ st = B.2))) (fun _ _ j _ => 2 - (intOf j).toNat)
  case atStart => exact ⟨true, s, rfl, HS.out.more HX1.out, Off.of_ext HX1.out, .inl ⟨rfl, rfl, rfl⟩⟩
  case round =>
    obtain ⟨ob, st, rfl, hw, ho, hj⟩ := hrel
    have HW := Lib.hid hw; have HO := Lib.hid ho; clear hw ho
    rcases hj with ⟨rfl, rfl, rfl⟩ | ⟨rfl, rfl, rfl⟩ | ⟨rfl, rfl, rfl⟩
    · cases hsa : someT V ta (k + 1)
      · have HSA := Lib.hid hsa
        have hA2 := HA.out
        rw [partT, hsa] at hA2
        have HA2 := Lib.hid hA2; clear hsa hA2
        go_wp2_with fail
        refine (SA.out _ st HW.out).mono ?_; rintro e w1 ⟨rfl, rfl⟩; rw [HSA.out]
        go_wp2
        go_roundw
        case rel => exact ⟨true, st, rfl, HW.out, HO.out, .inr (.inl ⟨rfl, by rw [← HA2.out]; rfl, by rw [← HA2.out]; rfl⟩)⟩
        case measure => simp [intOf]
      · have HSA := Lib.hid hsa
        have hA2 := HA.out
        rw [partT, hsa] at hA2
        have HA2 := Lib.hid hA2; clear hsa hA2
        cases hr : (onT (thereM ins) (wasM outs) V ta (k + 1) st).1
        all_goals
          have HR := Lib.hid hr; clear hr
          go_wp2_with fail
          refine (SA.out _ st HW.out).mono ?_; rintro e w1 ⟨rfl, rfl⟩; rw [HSA.out]
          go_wp2_with fail
          refine (IA.out _ st HW.out HSA.out).mono ?_; rintro e w1 ⟨rfl, hs1, o1⟩; rw [HR.out]
          have HS1 := Lib.hid hs1; have O1 := Lib.hid o1; clear hs1 o1
          go_wp2
          go_roundw
          case rel => exact ⟨_, _, rfl, HS1.out, HO.out.trans O1.out, .inr (.inl ⟨rfl, by rw [← HA2.out]; exact HR.out.symm, by rw [← HA2.out]; rfl⟩)⟩
          case measure => simp [intOf]
    · cases hsb : someT V tb (k + 1 + ta.size)
      · have HSB := Lib.hid hsb
        have hB2 := HB.out
        rw [partT, hsb] at hB2
        have HB2 := Lib.hid hB2; clear hsb hB2
        go_wp2_with fail
        refine (SB.out _ _ HW.out).mono ?_; rintro e w1 ⟨rfl, rfl⟩; rw [HSB.out]
        go_wp2
        go_roundw
        case rel => exact ⟨_, _, rfl, HW.out, HO.out, .inr (.inr ⟨rfl, by rw [← HB2.out]; simp, by rw [← HB2.out]; rfl⟩)⟩
        case measure => simp [intOf]
      · have HSB := Lib.hid hsb
        have hB2 := HB.out
        rw [partT, hsb] at hB2
        have HB2 := Lib.hid hB2; clear hsb hB2
        cases hr : (onT (thereM ins) (wasM outs) V tb (k + 1 + ta.size) A.2).1
        all_goals
          have HR := Lib.hid hr; clear hr
          go_wp2_with fail
          refine (SB.out _ _ HW.out).mono ?_; rintro e w1 ⟨rfl, rfl⟩; rw [HSB.out]
          go_wp2_with fail
          refine (IB.out _ _ HW.out HSB.out).mono ?_; rintro e w1 ⟨rfl, hs1, o1⟩; rw [HR.out]
          have HS1 := Lib.hid hs1; have O1 := Lib.hid o1; clear hs1 o1
          go_wp2
          go_roundw
          case rel => exact ⟨_, _, rfl, HS1.out, HO.out.trans O1.out, .inr (.inr ⟨rfl, by rw [← HB2.out]; simp [HR.out], by rw [← HB2.out]; rfl⟩)⟩
          case measure => simp [intOf]
    · go_wp2
      go_ret
      exact ⟨by rw [← HM.out]; rfl, by rw [← HM.out]; exact HW.out, HO.out⟩
theorem won_any (hp : SlN w0 PA n p) (hO : Sl w0 OA 3 (outs.map Bv)) (hV : Sl w0 WA n (V.map Bv)) (hwc : n ≤ wc) (hn : n ≤ 14) (h0 : 0 ≤ ins) (h8 : ins < 8) (hVk : waitsOK p V) : ∀ (t : Tr) (k : Nat), TreeAt p k t → t.ok → (∀ x ∈ t.flat, goodN x) → OnOK w0 b g1 g2 PA n pc fr WA wc OA oc ins outs V t k
  | .leaf x, k, ht, ok, hg => won_leaf w0 b g1 g2 PA n pc fr WA wc OA oc ins p outs V hp hn h0 h8 hVk x k ht ok (hg x (by simp [Tr.flat]))
  | .two ⟨kd, sg⟩ ta tb, k, ht, ok, hg => by
    have hgs := sub_good hg
    have hx := hg ⟨kd, sg⟩ (by simp [Tr.flat])
    have ia := won_any hp hO hV hwc hn h0 h8 hVk ta (k + 1) ht.first ok.2.1 hgs.1
    have ib := won_any hp hO hV hwc hn h0 h8 hVk tb (k + 1 + ta.size) ht.second ok.2.2 hgs.2
    have jb := wbegin_any w0 b g1 g2 PA n pc fr WA wc OA oc ins p outs hp hO hn h0 h8 tb (k + 1 + ta.size) ht.second ok.2.2 hgs.2
    by_cases e : kd = 5
    · subst e; exact won_seq w0 b g1 g2 PA n pc fr WA wc OA oc ins p outs V hp hV hwc hn sg ta tb k ht ok (fun h => some_two hVk ht ok h) ia ib jb
    · have h6 : 6 ≤ kd := by rcases good_two' ok.1 hx with q | q | q | q <;> simp only at q <;> omega
      exact won_par w0 b g1 g2 PA n pc fr WA wc OA oc ins p outs V hp hV hwc hn kd sg h6 ta tb k ht ok ia ib
end
end Go.Proofs.YtgohhcnmkomafaaDoor
/- walk.Turn walked. -/
namespace Go.Proofs.YtgohhcnmkomafaaDoor
set_option linter.unusedVariables false
set_option linter.unusedSimpArgs false
open Go.RowKit
attribute [local go_sem ↓] Go.wp_at_zero Go.wp_at_succ
abbrev restV (fr : Bool) (WA : Option Addr) (wn wc : Nat) (OA : Option Addr) (on oc : Nat) : Value := .agg #[Bv fr, .slice WA wn wc, .slice OA on oc]
/-- The three cells of a rest that reads as r. -/
structure RestC (w : World) (fr : Bool) (WA : Option Addr) (wn wc : Nat) (OA : Option Addr) (on oc : Nat) (r : RestM) : Prop where
  fresh : r.fresh = fr
  waits : Sl w WA wn (r.waits.map Bv)
  outs : Sl w OA on (r.outs.map Bv)
  wl : wn ≤ wc ∧ wc ≤ maxLen
  ol : on ≤ oc ∧ oc ≤ maxLen
theorem RestC.keep {w w' : World} {fr : Bool} {WA : Option Addr} {wn wc : Nat} {OA : Option Addr} {on oc : Nat} {r : RestM} (h : RestC w fr WA wn wc OA on oc r) (hk : Keeps w w') : RestC w' fr WA wn wc OA on oc r :=
  ⟨h.fresh, h.waits.keep hk, h.outs.keep hk, h.wl, h.ol⟩
/-- What is told of a rest that came of an instant. -/
def TurnOK (w w' : World) (n : Nat) (e : Ending) (M : Bool × StM) : Prop :=
  ∃ g1 g2, e = .returned (Pr (restV false (some ⟨g1, 0, none⟩) n n (some ⟨g2, 0, none⟩) 3 3) (Bv M.1)) ∧ w.heap.size ≤ g1 ∧ w.heap.size ≤ g2 ∧ RestC w' false (some ⟨g1, 0, none⟩) n n (some ⟨g2, 0, none⟩) 3 3 ⟨false, M.2.W, M.2.O⟩ ∧ Ext w w'
set_option maxRecDepth 100000 in
set_option maxHeartbeats 8000000 in
theorem turn_any (PA : Option Addr) (n pc : Nat) (t : Tr) (fr : Bool) (WA : Option Addr) (wn wc : Nat) (OA : Option Addr) (on oc : Nat) (r : RestM) (ins : Int) (w : World)
    (hp : SlN w PA n t.flat) (ok : t.ok) (hg : ∀ x ∈ t.flat, goodN x) (hs : t.size ≤ 14) (hr : RestC w fr WA wn wc OA on oc r) (hwl : r.waits.length = t.size) (hol : r.outs.length = 3) (hV : waitsOK t.flat r.waits) (h0 : 0 ≤ ins) (h8 : ins < 8) :
    Calls Tryd.prog 14 #[.slice PA n pc, restV fr WA wn wc OA on oc, I ins] w fun e w' => TurnOK w w' n e (turnM t r ins) := by
  have hn : n = t.size := by rw [← flat_size, hp.1]
  have hwn : wn = n := by have := hr.waits.len; omega
  have hon : on = 3 := by have := hr.outs.len; omega
  subst hwn; subst hon
  have hwc := hr.wl.1
  have hn14 : wn ≤ 14 := by omega
  have HP := Lib.hid hp; have HR := Lib.hid hr; have HN := Lib.hid hn
  generalize hM : turnM t r ins = M
  unfold turnM at hM
  rw [hr.fresh] at hM
  have HM := Lib.hid hM
  have HOK := Lib.hid ok; have HG := Lib.hid hg; have HV := Lib.hid hV
  clear hp hr hn hM hwl hol ok hg hV
  have f0 : w.heap.size + 1 < ((w.alloc (.cells #[Bv fr, .slice WA wn wc, .slice OA 3 oc] 34)).alloc (.cells #[.bool false, .slice none 0 0, .slice none 0 0] 34)).heap.size := by simp
  have f1 : ∀ j, ((w.alloc (.cells #[Bv fr, .slice WA wn wc, .slice OA 3 oc] 34)).alloc (.cells #[.bool false, .slice none 0 0, .slice none 0 0] 34)).frozen? ⟨w.heap.size + 1, j, none⟩ = false := fun j => World.frozen?_alloc_at _ _ _ _ (by simp)
  have HF1 := Lib.hid f1; have HF0 := Lib.hid f0; clear f0 f1
  go_enter Tryd.func14, Tryd.ntmps14
  go_wp2_with fail
  have hx2 : Ext w ((w.alloc (.cells #[Bv fr, .slice WA wn wc, .slice OA 3 oc] 34)).alloc (.cells #[.bool false, .slice none 0 0, .slice none 0 0] 34)) := ((Ext.refl w).alloc _).alloc _
  have z0 : ((w.alloc (.cells #[Bv fr, .slice WA wn wc, .slice OA 3 oc] 34)).alloc (.cells #[.bool false, .slice none 0 0, .slice none 0 0] 34)).cell? ⟨w.heap.size, 0, none⟩ = some (Bv fr) := by go_simp
  have z1 : ((w.alloc (.cells #[Bv fr, .slice WA wn wc, .slice OA 3 oc] 34)).alloc (.cells #[.bool false, .slice none 0 0, .slice none 0 0] 34)).cell? ⟨w.heap.size, 1, none⟩ = some (.slice WA wn wc) := by go_simp
  have z2 : ((w.alloc (.cells #[Bv fr, .slice WA wn wc, .slice OA 3 oc] 34)).alloc (.cells #[.bool false, .slice none 0 0, .slice none 0 0] 34)).cell? ⟨w.heap.size, 2, none⟩ = some (.slice OA 3 oc) := by go_simp
  have y0 : ((w.alloc (.cells #[Bv fr, .slice WA wn wc, .slice OA 3 oc] 34)).alloc (.cells #[.bool false, .slice none 0 0, .slice none 0 0] 34)).cell? ⟨w.heap.size + 1, 0, none⟩ = some (.bool false) := by go_simp
  have y1 : ((w.alloc (.cells #[Bv fr, .slice WA wn wc, .slice OA 3 oc] 34)).alloc (.cells #[.bool false, .slice none 0 0, .slice none 0 0] 34)).cell? ⟨w.heap.size + 1, 1, none⟩ = some (.slice none 0 0) := by go_simp
  have y2 : ((w.alloc (.cells #[Bv fr, .slice WA wn wc, .slice OA 3 oc] 34)).alloc (.cells #[.bool false, .slice none 0 0, .slice none 0 0] 34)).cell? ⟨w.heap.size + 1, 2, none⟩ = some (.slice none 0 0) := by go_simp
  generalize (w.alloc (.cells #[Bv fr, .slice WA wn wc, .slice OA 3 oc] 34)).alloc (.cells #[.bool false, .slice none 0 0, .slice none 0 0] 34) = W2 at *
  go_region_held3 (fun w' => w'.cell? ⟨w.heap.size, 0, none⟩ = some (Bv fr) ∧ w'.cell? ⟨w.heap.size, 1, none⟩ = some (.slice WA wn wc) ∧ w'.cell? ⟨w.heap.size, 2, none⟩ = some (.slice OA 3 oc))
    (first | exact ⟨x1.keeps _ _ z0, x1.keeps _ _ z1, x1.keeps _ _ z2⟩ | go_keep)
    (first | (go_at_call 13; refine (fresh_any PA wn pc W2.drew hn14).mono ?_; rintro e w1 ⟨g1, g2, rfl, hg1, hg2, hne, hW, hO, x1⟩))
  have hx3 := (hx2.trans ((Ext.refl W2).drew)).trans x1
  have hg1' := (hW.lt g1 rfl).2; have hg2' := (hO.lt g2 rfl).2
  have hz2 : w.heap.size + 2 ≤ W2.drew.heap.size := by have := HF0.out; show _ ≤ W2.heap.size; omega
  have hsz : w.heap.size + 2 ≤ w1.heap.size := Nat.le_trans hz2 x1.size
  have mkW : ∀ Q : World, Q = w1.alloc (.cells #[.slice PA wn pc, Bv fr, .slice WA wn wc, .slice OA 3 oc, .bool false, .slice (some ⟨g1, 0, none⟩) wn wn, .slice (some ⟨g2, 0, none⟩) 3 3, I ins] 81) →
      WSt w w1.heap.size g1 g2 PA wn pc fr WA wc OA oc ins Q ⟨List.replicate wn false, [false, false, false]⟩ ∧ Ext W2 Q := fun Q hQ => by
    subst hQ
    have ha : Ext w1 (w1.alloc (.cells #[.slice PA wn pc, Bv fr, .slice WA wn wc, .slice OA 3 oc, .bool false, .slice (some ⟨g1, 0, none⟩) wn wn, .slice (some ⟨g2, 0, none⟩) 3 3, I ins] 81)) := (Ext.refl w1).alloc _
    refine ⟨⟨hx3.trans ha, by omega, by omega, by omega, by omega, by omega, hne, ?_, ?_, ?_, ?_, ?_, ?_, ?_, ?_, own_base (own_ext hW ha) (by omega), own_base (own_ext hO ha) (by omega)⟩, (((Ext.refl W2).drew).trans x1).trans ha⟩
    all_goals (rw [World.cell?_alloc_new]; rfl)
  have tail : ∀ (w2 : World) (st : StM), WSt w w1.heap.size g1 g2 PA wn pc fr WA wc OA oc ins w2 st → (∃ Q, Ext W2 Q ∧ Off g1 g2 Q w2) →
      (w2.cell? ⟨w.heap.size + 1, 0, none⟩ = some (.bool false) ∧ w2.cell? ⟨w.heap.size + 1, 1, none⟩ = some (.slice none 0 0) ∧ w2.cell? ⟨w.heap.size + 1, 2, none⟩ = some (.slice none 0 0)) ∧ (∀ j, w2.frozen? ⟨w.heap.size + 1, j, none⟩ = false) ∧
      ∀ v0 v1 v2, RestC (((w2.setCell ⟨w.heap.size + 1, 0, none⟩ v0).setCell ⟨w.heap.size + 1, 1, none⟩ v1).setCell ⟨w.heap.size + 1, 2, none⟩ v2) false (some ⟨g1, 0, none⟩) wn wn (some ⟨g2, 0, none⟩) 3 3 ⟨false, st.W, st.O⟩ ∧
        Ext w (((w2.setCell ⟨w.heap.size + 1, 0, none⟩ v0).setCell ⟨w.heap.size + 1, 1, none⟩ v1).setCell ⟨w.heap.size + 1, 2, none⟩ v2) := fun w2 st hw ⟨Q, hQ, ho⟩ => by
    have n1 : w.heap.size + 1 ≠ g1 := by omega
    have n2 : w.heap.size + 1 ≠ g2 := by omega
    refine ⟨⟨ho.cell (hQ.keeps _ _ y0) n1 n2, ho.cell (hQ.keeps _ _ y1) n1 n2, ho.cell (hQ.keeps _ _ y2) n1 n2⟩, fun j => ?_, fun v0 v1 v2 => ⟨⟨rfl, ?_, ?_, ⟨Nat.le_refl _, by unfold maxLen; omega⟩, ⟨Nat.le_refl _, by unfold maxLen; omega⟩⟩, ?_⟩⟩
    · have hb : w.heap.size + 1 < W2.heap.size := HF0.out
      have e1 : w2.heap[w.heap.size + 1]? = Q.heap[w.heap.size + 1]? := ho.block _ (Nat.lt_of_lt_of_le hb hQ.size) n1 n2
      have e2 : Q.heap[w.heap.size + 1]? = W2.heap[w.heap.size + 1]? := hQ.block _ hb
      rw [World.frozen?_of_block (a := ⟨w.heap.size + 1, j, none⟩) (e1.trans e2)]; exact HF1.out j
    · obtain ⟨A, c, hv, -, -, hsl⟩ := own_sl (own_other (g := w.heap.size + 1) (j := 2) (u := v2) (own_other (g := w.heap.size + 1) (j := 1) (u := v1) (own_other (g := w.heap.size + 1) (j := 0) (u := v0) hw.W (fun e => n1 (Option.some.inj e).symm)) (fun e => n1 (Option.some.inj e).symm)) (fun e => n1 (Option.some.inj e).symm))
      injection hv with hA _ _; subst hA; exact hsl
    · obtain ⟨A, c, hv, -, -, hsl⟩ := own_sl (own_other (g := w.heap.size + 1) (j := 2) (u := v2) (own_other (g := w.heap.size + 1) (j := 1) (u := v1) (own_other (g := w.heap.size + 1) (j := 0) (u := v0) hw.O (fun e => n2 (Option.some.inj e).symm)) (fun e => n2 (Option.some.inj e).symm)) (fun e => n2 (Option.some.inj e).symm))
      injection hv with hA _ _; subst hA; exact hsl
    · exact ((hw.ext.setCell (by show w.heap.size ≤ w.heap.size + 1; omega) _).setCell (by show w.heap.size ≤ w.heap.size + 1; omega) _).setCell (by show w.heap.size ≤ w.heap.size + 1; omega) _
  have zk : ∀ Q, Ext W2 Q → Q.cell? ⟨w.heap.size, 0, none⟩ = some (Bv fr) := fun Q hQ => hQ.keeps _ _ z0
  have hz1 : w1.cell? ⟨w.heap.size, 0, none⟩ = some (Bv fr) := ((Ext.refl W2).drew.trans x1).keeps _ _ z0
  have MK := Lib.hid mkW; have TL := Lib.hid tail
  have hwsz : w.heap.size < w1.heap.size := by omega
  clear mkW tail zk z0 z1 z2 y0 y1 y2 hx3 hg1' hg2' hz2 hsz hW hO x1 hx2 hg1 hg2 hne
  cases fr
  · have hm := HM.out
    simp only [Bool.false_eq_true, if_false] at hm
    cases hsome : someT r.waits t 0
    · rw [hsome] at hm
      simp only [Bool.false_eq_true, if_false] at hm
      rw [← HN.out] at hm
      have HM1 := Lib.hid hm; have HSO := Lib.hid hsome; clear hm hsome HM
      go_wp2_with fail
      obtain ⟨hw, hx⟩ := MK.out _ rfl
      refine (wsome_any w w1.heap.size g1 g2 PA wn pc false WA wc OA oc ins _ _ hw t.flat r.waits HP.out HR.out.waits hwc hn14 0 t (TreeAt.root t) HOK.out).mono ?_; rintro e w2 ⟨rfl, rfl⟩; rw [HSO.out]
      generalize hW2 : w1.alloc (.cells #[.slice PA wn pc, Bv false, .slice WA wn wc, .slice OA 3 oc, .bool false, .slice (some ⟨g1, 0, none⟩) wn wn, .slice (some ⟨g2, 0, none⟩) 3 3, I ins] 81) = w2 at *
      have HS2 := Lib.hid hw; have HO2 : Hid (∃ Q, Ext W2 Q ∧ Off g1 g2 Q w2) := ⟨w2, hx, Off.refl _ _ _⟩; clear hw hx hW2
      obtain ⟨⟨y0, y1, y2⟩, yf, yr⟩ := TL.out w2 _ HS2.out HO2.out
      have c4 := HS2.out.c4; have c5 := HS2.out.c5; have c6 := HS2.out.c6
      have YR := Lib.hid yr; clear yr
      go_wp2
      refine bodyPost_ret (v := Pr (restV false (some ⟨g1, 0, none⟩) wn wn (some ⟨g2, 0, none⟩) 3 3) (Bv false)) (by simp [results, Tryd.results14, go_sem, y0, y1, y2]) rfl ⟨g1, g2, by rw [← HM1.out] <;> rfl, HS2.out.h1, HS2.out.h2, by rw [← HM1.out]; exact (YR.out _ _ _).1, (YR.out _ _ _).2⟩
    · rw [hsome] at hm
      simp only [if_true] at hm
      rw [← HN.out] at hm
      have HM1 := Lib.hid hm; have HSO := Lib.hid hsome; clear hm hsome HM
      go_wp2_with fail
      obtain ⟨hw, hx⟩ := MK.out _ rfl
      refine (wsome_any w w1.heap.size g1 g2 PA wn pc false WA wc OA oc ins _ _ hw t.flat r.waits HP.out HR.out.waits hwc hn14 0 t (TreeAt.root t) HOK.out).mono ?_; rintro e w2 ⟨rfl, rfl⟩; rw [HSO.out]
      have HW0 := Lib.hid hw; have HX0 := Lib.hid hx; clear hw hx
      go_wp2_with fail
      refine (won_any w w1.heap.size g1 g2 PA wn pc false WA wc OA oc ins t.flat r.outs r.waits HP.out HR.out.outs HR.out.waits hwc hn14 h0 h8 HV.out t 0 (TreeAt.root t) HOK.out HG.out _ _ HW0.out HSO.out).mono ?_; rintro e w2 ⟨rfl, hs2, o2⟩
      have HS2 := Lib.hid hs2; have HO2 : Hid (∃ Q, Ext W2 Q ∧ Off g1 g2 Q w2) := ⟨_, HX0.out, o2⟩; clear hs2 o2
      obtain ⟨⟨y0, y1, y2⟩, yf, yr⟩ := TL.out w2 _ HS2.out HO2.out
      have c4 := HS2.out.c4; have c5 := HS2.out.c5; have c6 := HS2.out.c6
      have YR := Lib.hid yr; clear yr
      go_wp2
      refine bodyPost_ret (v := Pr (restV false (some ⟨g1, 0, none⟩) wn wn (some ⟨g2, 0, none⟩) 3 3) (Bv (onT (thereM ins) (wasM r.outs) r.waits t 0 ⟨List.replicate wn false, [false, false, false]⟩).1)) (by simp [results, Tryd.results14, go_sem, y0, y1, y2]) rfl ⟨g1, g2, by rw [← HM1.out] <;> rfl, HS2.out.h1, HS2.out.h2, by rw [← HM1.out]; exact (YR.out _ _ _).1, (YR.out _ _ _).2⟩
  · have hm := HM.out
    simp only [if_true] at hm
    rw [← HN.out] at hm
    have HM1 := Lib.hid hm; clear hm HM
    go_wp2_with fail
    obtain ⟨hw, hx⟩ := MK.out _ rfl
    refine (wbegin_any w w1.heap.size g1 g2 PA wn pc true WA wc OA oc ins t.flat r.outs HP.out HR.out.outs hn14 h0 h8 t 0 (TreeAt.root t) HOK.out HG.out _ _ hw).mono ?_; rintro e w2 ⟨rfl, hs2, o2⟩
    have HS2 := Lib.hid hs2; have HO2 : Hid (∃ Q, Ext W2 Q ∧ Off g1 g2 Q w2) := ⟨_, hx, o2⟩; clear hs2 o2 hw hx
    obtain ⟨⟨y0, y1, y2⟩, yf, yr⟩ := TL.out w2 _ HS2.out HO2.out
    have c4 := HS2.out.c4; have c5 := HS2.out.c5; have c6 := HS2.out.c6
    have YR := Lib.hid yr; clear yr
    go_wp2
    refine bodyPost_ret (v := Pr (restV false (some ⟨g1, 0, none⟩) wn wn (some ⟨g2, 0, none⟩) 3 3) (Bv (beginT (thereM ins) (wasM r.outs) t 0 ⟨List.replicate wn false, [false, false, false]⟩).1)) (by simp [results, Tryd.results14, go_sem, y0, y1, y2]) rfl ⟨g1, g2, by rw [← HM1.out] <;> rfl, HS2.out.h1, HS2.out.h2, by rw [← HM1.out]; exact (YR.out _ _ _).1, (YR.out _ _ _).2⟩
end Go.Proofs.YtgohhcnmkomafaaDoor
