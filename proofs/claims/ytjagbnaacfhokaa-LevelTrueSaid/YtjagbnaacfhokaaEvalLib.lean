/- Right gates; what Step and Solves tell, as one value. No program in sight. -/
import Derived.Test.YtjagbnaacfhokaaTickPlain
import Derived.Test.YtjagbnaacfhokaaEvalPlain
namespace Go.Proofs.Ytjagbnaacfhokaa
set_option linter.unusedVariables false
set_option linter.unusedSimpArgs false

/-- A gate of a right net: gn gates, rn registers, jn inputs. -/
structure GateR (gn rn jn : Nat) (g : GateM) : Prop where
  kind : 0 ≤ g.kind ∧ g.kind ≤ 6
  args : ∀ a ∈ g.args, 0 ≤ a ∧ a < gn
  al : g.args.length ≤ 16
  inp : g.kind = 2 → 0 ≤ g.num ∧ g.num < jn
  reg : g.kind = 3 → 0 ≤ g.num ∧ g.num < rn
  one : g.kind = 6 → g.args.length = 1
  none : g.kind ≤ 3 → g.args.length = 0
theorem NetOK.gate {N : NetM} (ok : NetOK N) {g : GateM} (hg : g ∈ N.gates) : GateR N.gates.length N.regs.length N.ins.toNat g := by
  have hf := ok.form g hg
  have hk := ok.kinds g hg
  simp only [formM, Bool.and_eq_true, decide_eq_true_eq] at hf
  obtain ⟨⟨h1, h2⟩, h3⟩ := hf
  refine ⟨hk, fun a ha => ok.named a (List.mem_append_right _ (List.mem_flatMap.2 ⟨g, hg, ha⟩)), ok.al g hg, fun e => ?_, fun e => ?_, fun e => ?_, fun e => ?_⟩
  · rw [if_pos e] at h3; have := ok.ins0; omega
  · rw [if_neg (by omega), if_pos e] at h3; omega
  · rw [if_neg (by omega), if_pos e] at h1; simpa using h1
  · rw [if_neg (by omega), if_neg (by omega)] at h1; simpa using h1

def askedM (N : NetM) (regs ins : List Int) : Int :=
  if checkN N ≠ 0 then checkN N else if regs.length ≠ N.regs.length ∨ (ins.length : Int) ≠ N.ins then 1 else if regs.any bad3 then 3 else if ins.any bad3 then 3 else 0
def stepV (N : NetM) (regs ins : List Int) : List Int × Int := if askedM N regs ins ≠ 0 then ([], askedM N regs ins) else (settledM N.gates regs ins, 0)
def solvesV (N : NetM) (regs ins v : List Int) : Bool × Int :=
  if askedM N regs ins ≠ 0 then (false, askedM N regs ins) else if v.length ≠ N.gates.length then (false, 1) else if v.any bad3 then (false, 3) else (decide (nextV N.gates regs ins v = v), 0)
structure AskedOK (N : NetM) (regs ins : List Int) : Prop where
  net : NetOK N
  rl : regs.length = N.regs.length
  il : (ins.length : Int) = N.ins
  rg : goodL regs
  ig : goodL ins
theorem askedM_ok {N : NetM} {regs ins : List Int} (h : askedM N regs ins = 0) : AskedOK N regs ins := by
  unfold askedM at h
  by_cases h0 : checkN N = 0
  · rw [if_neg (by simp [h0])] at h
    split at h
    · cases h
    rename_i h1
    split at h
    · cases h
    rename_i h2
    split at h
    · cases h
    rename_i h3
    simp only [not_or, ne_eq, Decidable.not_not] at h1
    exact ⟨checkN_ok h0, h1.1, h1.2, goodL_of (by simpa using h2), goodL_of (by simpa using h3)⟩
  · rw [if_pos h0] at h; exact absurd h h0
theorem checkM_zero {l : List Int} (h : checkM l = 0) : goodL l := by
  unfold checkM at h
  cases hb : l.any bad3 with
  | true => rw [hb] at h; simp at h
  | false => exact goodL_of hb
theorem nextV_from {gs : List GateM} {regs ins v : List Int} : nextV gs regs ins v = v ↔ (gs.zip v).all (fun y => decide (worthM regs ins v y.1 = y.2)) = true ∧ v.length = gs.length := by
  unfold nextV
  constructor
  · intro h
    have hl : v.length = gs.length := by have := congrArg List.length h; simpa using this.symm
    refine ⟨?_, hl⟩
    rw [List.all_eq_true]
    intro y hy
    obtain ⟨k, hk, e⟩ := List.mem_iff_getElem.1 hy
    rw [List.getElem_zip] at e
    subst e
    simp only [List.length_zip] at hk
    have h2 : (gs.map (worthM regs ins v))[k]? = v[k]? := by rw [h]
    rw [List.getElem?_map, List.getElem?_eq_getElem (by omega), List.getElem?_eq_getElem (by omega)] at h2
    simp at h2
    simpa using h2
  · rintro ⟨h, hl⟩
    refine List.ext_getElem? fun k => ?_
    rcases Nat.lt_or_ge k gs.length with q | q
    · have hm : (gs[k], v[k]) ∈ gs.zip v := List.mem_iff_getElem.2 ⟨k, by simp; omega, by simp⟩
      have := List.all_eq_true.1 h _ hm
      simp only [decide_eq_true_eq] at this
      rw [List.getElem?_map, List.getElem?_eq_getElem q, List.getElem?_eq_getElem (by omega)]
      simp [this]
    · rw [List.getElem?_eq_none (by simpa using q), List.getElem?_eq_none (by omega)]
end Go.Proofs.Ytjagbnaacfhokaa
