/- A map of strings, keyed by integers, that the call itself makes: its entries as a function. -/
import Derived.Test.YtncakjhianmekaaTextLib
import Derived.Maps.OwnSet
import Derived.Maps.StringElems
import Derived.Maps.Views
namespace Go.Proofs.Ytncakjhianmekaa
set_option linter.unusedVariables false
set_option linter.unusedSimpArgs false
open Go.RowKit Go.Maps

/-- Block b is a map of at most n entries; at k stands f k ("" where there is none). -/
def MapS (w : World) (b n : Nat) (f : Int → List UInt8) : Prop :=
  ∃ D : DataW Unit, w.ownsMap Try.prog 3 (plainElem Try.prog 9) b n D ∧ IsMap D ∧ ∀ k, D.atKey (.int .i64 k) (.lit (.string [])) = .lit (.string (f k))
theorem mapS_law : Keyed Try.prog 3 := int_keyed Try.underlying3
theorem MapS.made (w : World) : MapS (w.alloc (.map #[] 0)) w.heap.size 0 (fun _ => []) := ⟨.map [], World.ownsMap_made _ _ _ _, isMap_empty, fun _ => rfl⟩
theorem isKey_int (k : Int) : WideAt.IsKeyLit (.int .i64 k) := by trivial
theorem zero_string (w : World) : (zeroValue 9).run Try.prog w = .ok (.string ⟨#[]⟩) w := by kernel_rfl
theorem wpList_insertS {w : World} {ops : Array Oper} {rest : List Oper} {o : Oper} {a : Act} {Q : Exit → Act → World → Prop}
    (hg : o.guard = none) (m x v : Operand) (hop : o.op = Op.insert 53 m x v) (b n : Nat) (f : Int → List UInt8) (hm : a.eval m = .map (some b)) (hown : MapS w b n f) (hn : n < maxLen)
    (k : Int) (s : List UInt8) (hx : a.eval x = I k) (hv : a.eval v = S s) (hk : (Lit.int .i64 k).wf = true) (hs : s.length ≤ maxLen)
    (hK : ∀ w', MapS w' b (n + 1) (fun j => if j = k then s else f j) → w.grownBy w' (some b) → wpList Try.prog ops Q rest (a.put o.dst undef) w') :
    wpList Try.prog ops Q (o :: rest) a w := by
  obtain ⟨D, hD, hi, hf⟩ := hown
  refine wpList_plain hg fun K' hK' => ?_
  obtain ⟨w', hrun, r1, r2⟩ := hD.update mapS_law Try.underlying53 hn (keyOf_int_mk Try.underlying3 hk) (plainElem_string (H := Unit) Try.underlying9 (s := ⟨s.toArray⟩) (by simpa [ByteArray.size] using hs))
  unfold Oper.wp
  simp [execOp, hop, hm, hx, hv, hrun, Result.andThen]
  refine hK' _ _ (hK w' ⟨_, r1, hi.put _ _, fun j => ?_⟩ r2)
  by_cases e : j = k
  · subst e; rw [atKey_put_same hi (isKey_int j)]; simp
  · rw [atKey_put_other (fun h => e (by injection h)), hf]; simp [e]
theorem wpList_lookupS {w : World} {ops : Array Oper} {rest : List Oper} {o : Oper} {a : Act} {Q : Exit → Act → World → Prop}
    (hg : o.guard = none) (m x : Operand) (hop : o.op = Op.lookup 53 m x false) (b n : Nat) (f : Int → List UInt8) (hm : a.eval m = .map (some b)) (hown : MapS w b n f)
    (k : Int) (hx : a.eval x = I k) (hk : (Lit.int .i64 k).wf = true) (l : List UInt8) (hl : f k = l) (hK : wpList Try.prog ops Q rest (a.put o.dst (S l)) w) : wpList Try.prog ops Q (o :: rest) a w := by
  subst hl
  obtain ⟨D, hD, hi, hf⟩ := hown
  refine wpList_plain hg fun K' hK' => ?_
  obtain ⟨v, ps, hrun, hv⟩ := hD.lookup mapS_law Try.underlying53 (zero_string w) (plainElem_string (H := Unit) Try.underlying9 (s := ⟨#[]⟩) (by simp [ByteArray.size])) (keyOf_int_mk Try.underlying3 hk)
  obtain ⟨s, rfl, hz, -⟩ := plainElem_string_inv Try.underlying9 hv
  simp only [Prod.mk.injEq] at hz
  have h2 := hz.1
  rw [hf k] at h2
  have h3 : f k = s.data.toList := by injection h2 with h2; injection h2
  have h4 : s = ⟨(f k).toArray⟩ := by rw [h3]
  unfold Oper.wp
  simp [execOp, hop, hm, hx, hrun, Result.andThen]
  rw [h4]
  exact hK' _ _ hK
end Go.Proofs.Ytncakjhianmekaa
