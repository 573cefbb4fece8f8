/- A net that is read as data opens to the words of NetLib. -/
import Derived.Test.YtjagbnaacfhokaaOpen
import Derived.Test.YtjagbnaacfhokaaNetLib
import Derived.Lib.SmallJoins
namespace Go.Proofs.Ytjagbnaacfhokaa
set_option linter.unusedVariables false
set_option linter.unusedSimpArgs false
open Go.ChangeShapes Go.WideShapes Go.Deep Go.RowKit Go.Joins

theorem list_of {α : Type} {Q : Nat → α → Prop} (len : Nat) (h : ∀ i, i < len → ∃ y, Q i y) : ∃ p : List α, p.length = len ∧ ∀ i y, p[i]? = some y → Q i y := by
  have : ∀ m, m ≤ len → ∃ p : List α, p.length = m ∧ ∀ i y, p[i]? = some y → Q i y := by
    intro m
    induction m with
    | zero => exact fun _ => ⟨[], rfl, by simp⟩
    | succ m ih =>
      intro hm
      obtain ⟨p, hp, hp2⟩ := ih (by omega)
      obtain ⟨y, hy⟩ := h m (by omega)
      refine ⟨p ++ [y], by simp [hp], fun i z hz => ?_⟩
      rw [List.getElem?_append] at hz
      split at hz
      · exact hp2 i z hz
      · have hi : i = m := by
          rcases Nat.eq_or_lt_of_le (show m ≤ i by omega) with e | e
          · exact e.symm
          · rw [List.getElem?_eq_none (by simp; omega)] at hz; cases hz
        subst hi
        simp [hp] at hz; subst hz
        exact hy
  exact this len (Nat.le_refl _)
theorem spot_of {w : World} {a : Addr} {k : Nat} {u : Value} (h : w.cell? (a.add k) = some u) (hk : k = 0) : ∃ b o, a = ⟨b, o, none⟩ := by
  have hs := spot_none h hk
  obtain ⟨b, o, s⟩ := a
  subst hs
  exact ⟨b, o, rfl⟩

section
variable {H : Type} {enc : TypeId × Value → H} {w : World} {base : Nat} {held : Bool} {fuel : Nat}
theorem open_sl {v : Value} {x : DataW H × List MemPlace} (h : DataW.trod enc Try.prog w base (fun _ => true) held fuel 24 [v] = some x) :
    ∃ (A : Option Addr) (n c : Nat) (zs : List Int), v = .slice A n c ∧ Sl w A n (zs.map I) ∧ n ≤ c ∧ c ≤ maxLen ∧ ∀ z ∈ zs, (Lit.int .i64 z).wf = true := by
  rcases open_ints Try.underlying24 Try.underlying3 (by kernel_rfl) h with ⟨hcs, _⟩ | ⟨x, l, c, zs, hcs, _, hl, hm, hz, hx, hcell, hwz⟩
  · simp at hcs; subst hcs
    exact ⟨none, 0, 0, [], rfl, Sl.nil _ _, Nat.le_refl _, Nat.zero_le _, by simp⟩
  · simp at hcs; subst hcs
    simp only [if_true] at hz
    exact ⟨some x, l, c, zs.take l, rfl, sl_of_row hl (by simpa using hz) hcell, hl, hm, fun n hn => hwz n (List.mem_of_mem_take hn)⟩
theorem open_gates {v : Value} {x : DataW H × List MemPlace} (h : DataW.trod enc Try.prog w base (fun _ => true) held fuel 22 [v] = some x) :
    ∃ (A : Option Addr) (n c : Nat) (gs : List GateM), v = .slice A n c ∧ SlG w A n gs ∧ n ≤ c ∧ c ≤ maxLen := by
  rcases open_slice_fields (P := Try.prog) (fs := _) Try.underlying22 Try.underlying34 (by kernel_rfl) (by kernel_rfl) h with ⟨e, rfl⟩ | ⟨a, len, cap, m, D, Pl, e, hb, hl, hm, hmm, hx, hf⟩
  · simp at e; subst e
    exact ⟨none, 0, 0, [], rfl, ⟨rfl, by simp⟩, Nat.le_refl _, Nat.zero_le _⟩
  · simp at e; subst e
    simp only [if_true] at hmm
    obtain ⟨gs, hgl, hgs⟩ := list_of (α := GateM) (Q := fun i g => w.cell? (a.add (i * 3)) = some (I g.kind) ∧ w.cell? (a.add (i * 3 + 1)) = some (I g.num) ∧ ∃ A' n c, w.cell? (a.add (i * 3 + 2)) = some (.slice A' n c) ∧ Sl w A' n (g.args.map I) ∧ n ≤ c ∧ c ≤ maxLen) len (by
      intro i hi
      obtain ⟨ys, n, _, _, _, hff⟩ := hf i (by omega)
      obtain ⟨v0, y0, hc0, hy0, ht0⟩ := hff 0 _ rfl
      obtain ⟨v1, y1, hc1, hy1, ht1⟩ := hff 1 _ rfl
      obtain ⟨v2, y2, hc2, hy2, ht2⟩ := hff 2 _ rfl
      obtain ⟨k0, e0, _, wf0⟩ := DataW.trod_int Try.underlying3 ht0
      obtain ⟨k1, e1, _, wf1⟩ := DataW.trod_int Try.underlying3 ht1
      obtain ⟨A', n', c', zs, e2, hs, h1, h2, _⟩ := open_sl ht2
      simp only [List.cons.injEq, and_true] at e0 e1
      subst e0; subst e1; subst e2
      exact ⟨⟨k0, k1, zs⟩, hc0, hc1, A', n', c', hc2, hs, h1, h2⟩)
    refine ⟨some a, len, cap, gs, rfl, ⟨hgl, fun k g hg => ?_⟩, hl, hm⟩
    obtain ⟨h0, h1, A', n', c', h2, h3, h4, h5⟩ := hgs k g hg
    obtain ⟨b, o, rfl⟩ : ∃ b o, a = ⟨b, o, none⟩ := by
      have hk0 : 0 < gs.length := by have := (List.getElem?_eq_some_iff.1 hg).1; omega
      exact spot_of (hgs 0 _ (List.getElem?_eq_getElem hk0)).1 (by omega)
    rw [add_plain'] at h0 h1 h2
    exact ⟨b, o, A', n', c', rfl, h0, by rw [Nat.add_assoc]; exact h1, by rw [Nat.add_assoc]; exact h2, h3, h4, h5⟩
theorem open_stores {v : Value} {x : DataW H × List MemPlace} (h : DataW.trod enc Try.prog w base (fun _ => true) held fuel 23 [v] = some x) :
    ∃ (A : Option Addr) (n c : Nat) (rs : List StoreM), v = .slice A n c ∧ SlR w A n rs ∧ n ≤ c ∧ c ≤ maxLen := by
  rcases open_slice_fields (P := Try.prog) (fs := _) Try.underlying23 Try.underlying78 (by kernel_rfl) (by kernel_rfl) h with ⟨e, rfl⟩ | ⟨a, len, cap, m, D, Pl, e, hb, hl, hm, hmm, hx, hf⟩
  · simp at e; subst e
    exact ⟨none, 0, 0, [], rfl, Sl2.nil _ _ _ _, Nat.le_refl _, Nat.zero_le _⟩
  · simp at e; subst e
    simp only [if_true] at hmm
    obtain ⟨gs, hgl, hgs⟩ := list_of (α := StoreM) (Q := fun i g => w.cell? (a.add (i * 2)) = some (RB g) ∧ w.cell? (a.add (i * 2 + 1)) = some (RN g)) len (by
      intro i hi
      obtain ⟨ys, n, _, _, _, hff⟩ := hf i (by omega)
      obtain ⟨v0, y0, hc0, hy0, ht0⟩ := hff 0 _ rfl
      obtain ⟨v1, y1, hc1, hy1, ht1⟩ := hff 1 _ rfl
      obtain ⟨k0, e0, _⟩ := DataW.trod_bool Try.underlying4 ht0
      obtain ⟨k1, e1, _, wf1⟩ := DataW.trod_int Try.underlying3 ht1
      simp only [List.cons.injEq, and_true] at e0 e1
      subst e0; subst e1
      exact ⟨⟨k0, k1⟩, hc0, hc1⟩)
    refine ⟨some a, len, cap, gs, rfl, ⟨hgl, fun k g hg => ?_⟩, hl, hm⟩
    obtain ⟨h0, h1⟩ := hgs k g hg
    obtain ⟨b, o, rfl⟩ : ∃ b o, a = ⟨b, o, none⟩ := by
      have hk0 : 0 < gs.length := by have := (List.getElem?_eq_some_iff.1 hg).1; omega
      exact spot_of (hgs 0 _ (List.getElem?_eq_getElem hk0)).1 (by omega)
    rw [add_plain'] at h0 h1
    exact ⟨b, o, rfl, h0, by rw [Nat.add_assoc]; exact h1⟩
set_option maxRecDepth 100000 in
theorem open_net {r : Reach} {b0 : Nat} {v : Value} {d : DataW H} {p : List MemPlace} (hv : Value.okWide Try.prog w r b0 26 v) (h : DataW.Trod enc Try.prog w base (fun _ => true) held 26 v d p) :
    ∃ (i : Int) (GA : Option Addr) (gn gc : Nat) (RA : Option Addr) (rn rc : Nat) (OA : Option Addr) (on oc : Nat) (N : NetM), v = netV i GA gn gc RA rn rc OA on oc ∧ NetC w i GA gn gc RA rn rc OA on oc N ∧ -9223372036854775808 ≤ i ∧ i ≤ 9223372036854775807 := by
  obtain ⟨c0, c1, c2, c3, y0, y1, y2, y3, m, rfl, rfl, rfl, h0, h1, h2, h3⟩ := open_agg4 Try.underlying26 (by kernel_rfl) (by kernel_rfl) hv h
  obtain ⟨k0, e0, _, wf0⟩ := DataW.trod_int Try.underlying3 h0
  simp only [List.cons.injEq, and_true] at e0
  subst e0
  obtain ⟨GA, gn, gc, gs, rfl, g1, g2, g3⟩ := open_gates h1
  obtain ⟨RA, rn, rc, rs, rfl, r1, r2, r3⟩ := open_stores h2
  obtain ⟨OA, on, oc, os, rfl, o1, o2, o3, _⟩ := open_sl h3
  have hw : -9223372036854775808 ≤ k0 ∧ k0 ≤ 9223372036854775807 := by simpa [Lit.wf, IntKind.min, IntKind.max, IntKind.signed, IntKind.bits] using wf0
  exact ⟨k0, GA, gn, gc, RA, rn, rc, OA, on, oc, ⟨k0, gs, rs, os⟩, rfl, ⟨rfl, g1, r1, o1, ⟨g2, g3⟩, ⟨r2, r3⟩, ⟨o2, o3⟩⟩, hw⟩
end
end Go.Proofs.Ytjagbnaacfhokaa
