/- How a net lies in memory; must, and what is left by a panic. -/
import Derived.Test.YtjagbnaacfhokaaChecked
import Derived.Test.YtjagbnaacfhokaaSame
import Derived.Test.YtjagbnaacfhokaaNetPlain
namespace Go.Proofs.Ytjagbnaacfhokaa
set_option linter.unusedVariables false
set_option linter.unusedSimpArgs false
open Go.RowKit

/-- A slice of gates, three cells each. -/
def SlG (w : World) (A : Option Addr) (n : Nat) (gs : List GateM) : Prop :=
  gs.length = n ∧ ∀ k g, gs[k]? = some g → ∃ b off A' m c, A = some ⟨b, off, none⟩ ∧ w.cell? ⟨b, off + k * 3, none⟩ = some (I g.kind) ∧ w.cell? ⟨b, off + k * 3 + 1, none⟩ = some (I g.num) ∧
    w.cell? ⟨b, off + k * 3 + 2, none⟩ = some (.slice A' m c) ∧ Sl w A' m (g.args.map I) ∧ m ≤ c ∧ c ≤ maxLen
abbrev RB (r : StoreM) : Value := Bv r.fst
abbrev RN (r : StoreM) : Value := I r.next
abbrev SlR := Sl2 RB RN
theorem SlG.keep {w w' : World} {A : Option Addr} {n : Nat} {gs : List GateM} (h : SlG w A n gs) (hk : Keeps w w') : SlG w' A n gs :=
  ⟨h.1, fun k g hg => let ⟨b, o, A', m, c, e, h0, h1, h2, h3, h4, h5⟩ := h.2 k g hg; ⟨b, o, A', m, c, e, hk _ _ h0, hk _ _ h1, hk _ _ h2, h3.keep hk, h4, h5⟩⟩
theorem SlG.next {w : World} {A : Option Addr} {n : Nat} {gs : List GateM} (h : SlG w A n gs) {k : Nat} (hk : k < n) :
    ∃ b off A' m c g, A = some ⟨b, off, none⟩ ∧ w.cell? ⟨b, off + k * 3, none⟩ = some (I g.kind) ∧ w.cell? ⟨b, off + k * 3 + 1, none⟩ = some (I g.num) ∧
    w.cell? ⟨b, off + k * 3 + 2, none⟩ = some (.slice A' m c) ∧ Sl w A' m (g.args.map I) ∧ m ≤ c ∧ c ≤ maxLen ∧ gs.drop k = g :: gs.drop (k + 1) ∧ gs[k]? = some g := by
  have hl : k < gs.length := by have := h.1; omega
  obtain ⟨b, off, A', m, c, e, r⟩ := h.2 k gs[k] (List.getElem?_eq_getElem hl)
  exact ⟨b, off, A', m, c, gs[k], e, r.1, r.2.1, r.2.2.1, r.2.2.2.1, r.2.2.2.2.1, r.2.2.2.2.2, List.drop_eq_getElem_cons hl, List.getElem?_eq_getElem hl⟩
theorem SlG.drop_end {w : World} {A : Option Addr} {n : Nat} {gs : List GateM} (h : SlG w A n gs) {k : Nat} (hk : ¬ k < n) : gs.drop k = [] := by
  have := h.1; exact List.drop_eq_nil_of_le (by omega)

/-- The four cells of a net that reads as N. -/
structure NetC (w : World) (i : Int) (GA : Option Addr) (gn gc : Nat) (RA : Option Addr) (rn rc : Nat) (OA : Option Addr) (on oc : Nat) (N : NetM) : Prop where
  ins : i = N.ins
  gates : SlG w GA gn N.gates
  regs : SlR w RA rn N.regs
  outs : Sl w OA on (N.outs.map I)
  gl : gn ≤ gc ∧ gc ≤ maxLen
  rl : rn ≤ rc ∧ rc ≤ maxLen
  ol : on ≤ oc ∧ oc ≤ maxLen
theorem NetC.keep {w w' : World} {i : Int} {GA : Option Addr} {gn gc : Nat} {RA : Option Addr} {rn rc : Nat} {OA : Option Addr} {on oc : Nat} {N : NetM} (h : NetC w i GA gn gc RA rn rc OA on oc N) (hk : Keeps w w') : NetC w' i GA gn gc RA rn rc OA on oc N :=
  ⟨h.ins, h.gates.keep hk, h.regs.keep hk, h.outs.keep hk, h.gl, h.rl, h.ol⟩
/-- A net, as a value. -/
abbrev netV (i : Int) (GA : Option Addr) (gn gc : Nat) (RA : Option Addr) (rn rc : Nat) (OA : Option Addr) (on oc : Nat) : Value :=
  .agg #[I i, .slice GA gn gc, .slice RA rn rc, .slice OA on oc]
/-- A net laid in a block of its own. -/
def NetBox (w : World) (b : Nat) (i : Int) (GA : Option Addr) (gn gc : Nat) (RA : Option Addr) (rn rc : Nat) (OA : Option Addr) (on oc : Nat) : Prop :=
  w.cell? ⟨b, 0, none⟩ = some (I i) ∧ w.cell? ⟨b, 1, none⟩ = some (.slice GA gn gc) ∧ w.cell? ⟨b, 2, none⟩ = some (.slice RA rn rc) ∧ w.cell? ⟨b, 3, none⟩ = some (.slice OA on oc)
theorem NetBox.keep {w w' : World} {b : Nat} {i : Int} {GA : Option Addr} {gn gc : Nat} {RA : Option Addr} {rn rc : Nat} {OA : Option Addr} {on oc : Nat} (h : NetBox w b i GA gn gc RA rn rc OA on oc) (hk : Keeps w w') : NetBox w' b i GA gn gc RA rn rc OA on oc :=
  ⟨hk _ _ h.1, hk _ _ h.2.1, hk _ _ h.2.2.1, hk _ _ h.2.2.2⟩
theorem NetBox.new (w : World) (i : Int) (GA : Option Addr) (gn gc : Nat) (RA : Option Addr) (rn rc : Nat) (OA : Option Addr) (on oc : Nat) (T : TypeId) : NetBox (w.alloc (.cells #[I i, .slice GA gn gc, .slice RA rn rc, .slice OA on oc] T)) w.heap.size i GA gn gc RA rn rc OA on oc :=
  ⟨by rw [World.cell?_alloc_new]; rfl, by rw [World.cell?_alloc_new]; rfl, by rw [World.cell?_alloc_new]; rfl, by rw [World.cell?_alloc_new]; rfl⟩

def indexB (v : Bool) : List Bool → Int → Int
  | [], _ => -1
  | x :: l, k => if x = v then k else indexB v l (k + 1)
theorem indexB_lo (v : Bool) (l : List Bool) : ∀ k : Int, 0 ≤ k → decide (0 ≤ indexB v l k) = l.contains v := by
  induction l with
  | nil => intro k _; simp [indexB]
  | cons x l ih =>
    intro k hk
    by_cases h : x = v
    · subst h; simp [indexB, hk]
    · have h' : ¬ v = x := fun e => h e.symm
      simp only [indexB, if_neg h, ih (k + 1) (by omega), List.contains_cons]
      simp [h']

theorem indexBool_any (A : Option Addr) (n c : Nat) (xs : List Bool) (v : Bool) (w : World) (h : Sl w A n (xs.map Bv)) (hn : n ≤ maxLen) :
    Calls Try.prog 139 #[.slice A n c, Bv v] w fun e w' => e = .returned (I (indexB v xs 0)) ∧ w = w' := by
  unfold maxLen at hn
  have H := Lib.hid h; clear h
  go_enter Try.func139, Try.ntmps139
  go_wp2
  go_loop [8] (fun i => ∃ (k : Nat), k ≤ n ∧ i = .int .i64 k ∧ indexB v (xs.drop k) k = indexB v xs 0) (fun i => n - (intOf i).toNat)
  case atStart => exact ⟨0, Nat.zero_le _, rfl, rfl⟩
  case round =>
    obtain ⟨k, hk, rfl, hM⟩ := hrel
    by_cases hlt : k < n
    · obtain ⟨b, off, x, rfl, hc, hd⟩ := H.out.next hlt
      rw [hd, indexB] at hM
      have HM := Lib.hid hM; clear hM hd
      by_cases hx : x = v
      · subst hx
        go_wp2
        go_ret; exact ⟨ret_int (by rw [← HM.out]; simp), rfl⟩
      · have g : (v == x) = false := by simpa using fun e => hx (Eq.symm e)
        have HX := Lib.hid hx; clear hx
        go_wp2
        go_round
        case rel => exact ⟨k + 1, by omega, by go_num, by rw [← HM.out, if_neg HX.out]; simp⟩
        case measure => simp [intOf]; omega
    · rw [H.out.drop_end hlt, indexB] at hM
      have HM := Lib.hid hM; clear hM
      go_wp2
      go_ret; exact ⟨ret_int HM.out, rfl⟩
theorem containsBool_any (A : Option Addr) (n c : Nat) (xs : List Bool) (v : Bool) (w : World) (h : Sl w A n (xs.map Bv)) (hn : n ≤ maxLen) :
    Calls Try.prog 131 #[.slice A n c, Bv v] w fun e w' => e = .returned (.bool (xs.contains v)) ∧ w = w' := by
  have H := Lib.hid h; clear h
  have HM := Lib.hid (indexB_lo v xs 0 (Int.le_refl _))
  go_enter Try.func131, Try.ntmps131
  go_wp2_with fail
  refine (indexBool_any A n c xs v w H.out hn).mono ?_; rintro e w' ⟨rfl, rfl⟩
  go_wp2
  go_ret; exact ⟨ret_bool HM.out, rfl⟩

/-- What is thrown. -/
abbrev thrown (e : Int) : PanicEntry := { v := .iface 127 (.agg #[I e]), recovered := false }
theorem must_ok (A : Option Addr) (n c : Nat) (xs : List Bool) (e : Int) (w : World) (h : Sl w A n (xs.map Bv)) (hn : n ≤ maxLen) (hx : xs.contains false = false) :
    Calls Try.prog 113 #[I e, .slice A n c] w fun e' w' => e' = .returned (.tuple #[]) ∧ w = w' := by
  have H := Lib.hid h; have HX := Lib.hid hx; clear h hx
  go_enter Try.func113, Try.ntmps113
  go_wp2_with fail
  refine (containsBool_any A n c xs false w H.out hn).mono ?_; rintro e w' ⟨rfl, rfl⟩; rw [HX.out]
  go_wp2
  go_end0
  exact ⟨rfl, rfl⟩
theorem must_bad (A : Option Addr) (n c : Nat) (xs : List Bool) (e : Int) (w : World) (h : Sl w A n (xs.map Bv)) (hn : n ≤ maxLen) (hx : xs.contains false = true) :
    Calls Try.prog 113 #[I e, .slice A n c] w fun e' w' => e' = .panicked [thrown e] ∧ w = w' := by
  have H := Lib.hid h; have HX := Lib.hid hx; clear h hx
  go_enter Try.func113, Try.ntmps113
  go_wp2_with fail
  refine (containsBool_any A n c xs false w H.out hn).mono ?_; rintro e w' ⟨rfl, rfl⟩; rw [HX.out]
  go_wp2
  exact ⟨rfl, rfl, rfl⟩
end Go.Proofs.Ytjagbnaacfhokaa
