/- The reference's NeedsOf walked. -/
import Derived.Test.YtejpnbomlnifkaaNetNeed2
namespace Go.Proofs.Ytejpnbomlnifkaa
set_option linter.unusedVariables false
set_option linter.unusedSimpArgs false
open Go.RowKit

theorem roundsM_at {gs : List GateM} {n k : Nat} {o : List Bool} (hk : k < n) : roundsM gs (n - k) o = roundsM gs (n - (k + 1)) (roundM gs o) := by
  rw [show n - k = (n - (k + 1)) + 1 from by omega]; rfl
theorem roundFrom_cons (g : GateM) (l : List GateM) (k : Nat) (o : List Bool) : roundFrom (g :: l) k o = roundFrom l (k + 1) (if onI o k then markM o g.args else o) := rfl
theorem flag_at {o : List Bool} {k : Nat} (h : k < o.length) : o[k]? = some (onI o (k : Int)) := by simp [onI, h]
theorem own_flag {w : World} {base : Nat} {e : TypeId} {g n c : Nat} {o : List Bool} (h : w.ownsRow base e 1 (.slice (some ⟨g, 0, none⟩) n c) n (o.map Bv)) {k : Nat} (hk : k < n) :
    w.cell? ⟨g, k, none⟩ = some (Bv (onI o (k : Int))) ∧ w.frozen? ⟨g, k, none⟩ = false ∧ o.length = n := by
  have hl : o.length = n := by have := h.1; simpa using this
  refine ⟨?_, h.frozenAt k, hl⟩
  rw [h.cellAt k (by omega), List.getElem?_map, flag_at (by omega)]; rfl

end Go.Proofs.Ytejpnbomlnifkaa
