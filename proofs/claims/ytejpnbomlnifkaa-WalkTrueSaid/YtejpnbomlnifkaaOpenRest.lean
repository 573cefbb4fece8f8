/- A rest that is read as data opens to RestC. -/
import Derived.Test.YtejpnbomlnifkaaOpenNet
import Derived.Test.YtejpnbomlnifkaaWalkTurn
import Derived.Deep.Grids
namespace Go.Proofs.Ytejpnbomlnifkaa
set_option linter.unusedVariables false
set_option linter.unusedSimpArgs false
open Go.ChangeShapes Go.WideShapes Go.Deep Go.RowKit Go.Joins

section
variable {H : Type} {enc : TypeId × Value → H} {w : World} {base : Nat} {held : Bool} {fuel : Nat}
theorem open_bl {v : Value} {x : DataW H × List MemPlace} (h : DataW.trod enc Try.prog w base (fun _ => true) held fuel 27 [v] = some x) :
    ∃ (A : Option Addr) (n c : Nat) (bs : List Bool), v = .slice A n c ∧ Sl w A n (bs.map Bv) ∧ n ≤ c ∧ c ≤ maxLen := by
  rcases open_bools Try.underlying27 Try.underlying4 (by kernel_rfl) h with ⟨hcs, _⟩ | ⟨a, l, c, B, hcs, _, hl, hm, _, hcell⟩
  · simp at hcs; subst hcs
    exact ⟨none, 0, 0, [], rfl, Sl.nil _ _, Nat.le_refl _, Nat.zero_le _⟩
  · simp at hcs; subst hcs
    refine ⟨some a, l, c, (List.range l).map B, rfl, ⟨by simp, fun k u hu => ?_⟩, hl, hm⟩
    simp only [List.map_map, List.getElem?_map] at hu
    have hk : k < l := by
      rcases Nat.lt_or_ge k l with q | q
      · exact q
      · rw [List.getElem?_eq_none (by simpa using q)] at hu; cases hu
    rw [List.getElem?_eq_getElem (by simpa using hk)] at hu
    simp only [List.getElem_range, Option.map_some, Function.comp] at hu
    injection hu with hu
    have hc := hcell k (by omega)
    obtain ⟨b, o, rfl⟩ := spot_of (hcell 0 (by omega)) rfl
    rw [add_plain'] at hc
    exact ⟨b, o, rfl, by rw [← hu]; exact hc⟩
set_option maxRecDepth 100000 in
theorem open_rest {r : Reach} {b0 : Nat} {v : Value} {d : DataW H} {p : List MemPlace} (hv : Value.okWide Try.prog w r b0 39 v) (h : DataW.Trod enc Try.prog w base (fun _ => true) held 39 v d p) :
    ∃ (fr : Bool) (WA : Option Addr) (wn wc : Nat) (OA : Option Addr) (on oc : Nat) (q : RestM), v = restV fr WA wn wc OA on oc ∧ RestC w fr WA wn wc OA on oc q := by
  obtain ⟨c0, c1, c2, y0, y1, y2, m, rfl, rfl, rfl, h0, h1, h2⟩ := open_agg3 Try.underlying39 (by kernel_rfl) (by kernel_rfl) hv h
  obtain ⟨k0, e0, _⟩ := DataW.trod_bool Try.underlying4 h0
  simp only [List.cons.injEq, and_true] at e0
  subst e0
  obtain ⟨WA, wn, wc, ws, rfl, g1, g2, g3⟩ := open_bl h1
  obtain ⟨OA, on, oc, os, rfl, o1, o2, o3⟩ := open_bl h2
  exact ⟨k0, WA, wn, wc, OA, on, oc, ⟨k0, ws, os⟩, rfl, ⟨rfl, g1, o1, ⟨g2, g3⟩, ⟨o2, o3⟩⟩⟩
end
end Go.Proofs.Ytejpnbomlnifkaa
