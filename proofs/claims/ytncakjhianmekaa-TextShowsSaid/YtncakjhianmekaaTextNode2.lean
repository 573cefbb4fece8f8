/- text's reader: node, whatever it reads. -/
import Derived.Test.YtncakjhianmekaaTextNode
namespace Go.Proofs.Ytncakjhianmekaa
set_option linter.unusedVariables false
set_option linter.unusedSimpArgs false
open Go.RowKit

theorem post_some {W0 : World} {g : Nat} {ps : List PNode} {o : Option (Tr × List UInt8)} {e : Ending} {w' : World} {t : Tr} {r : List UInt8} (ho : o = some (t, r)) (h : e = .returned (.tuple #[]) ∧ RS W0 g w' r (ps ++ t.flat)) : NodePost W0 g ps o e w' := by
  subst ho; exact h
theorem post_none {W0 : World} {g : Nat} {ps : List PNode} {o : Option (Tr × List UInt8)} {e : Ending} {w' : World} (ho : o = none) (h : e = .panicked [broken] ∧ Ext W0 w') : NodePost W0 g ps o e w' := by
  subst ho; exact h
theorem node_ok : ∀ n, NodeOK n
  | 0 => fun W0 g w s ps left h hl hn => by omega
  | n + 1 => fun W0 g w s ps left h hl hn => by
    have hN := node_ok n
    cases left with
    | zero =>
      have hl : ps.length = 14 := by omega
      have none' : readT (n + 1) 0 s = none := rfl
      cases hi0 : isP wNothing s
      rotate_left
      · exact (node_full0 h hl hi0).mono fun e w' q => post_none none' q
      cases hi1 : isP wPause s
      rotate_left
      · exact (node_full1 h hl hi0 hi1).mono fun e w' q => post_none none' q
      cases hi2 : isP wHalt s
      rotate_left
      · exact (node_full2 h hl hi0 hi1 hi2).mono fun e w' q => post_none none' q
      cases hi3 : isP wEmit s
      rotate_left
      · cases hs : signP 65 (restP wEmit s) with
        | none => exact (node_sign3 h hi0 hi1 hi2 hi3 hs).mono fun e w' q => post_none none' q
        | some q => exact (node_full3 h hl hi0 hi1 hi2 hi3 hs).mono fun e w' q => post_none none' q
      cases hi4 : isP wAwait s
      rotate_left
      · cases hs : signP 120 (restP wAwait s) with
        | none => exact (node_sign4 h hi0 hi1 hi2 hi3 hi4 hs).mono fun e w' q => post_none none' q
        | some q => exact (node_full4 h hl hi0 hi1 hi2 hi3 hi4 hs).mono fun e w' q => post_none none' q
      cases hi5 : isP wIf s
      rotate_left
      · cases hs : signP 120 (restP wIf s) with
        | none => exact (node_sign5 h hi0 hi1 hi2 hi3 hi4 hi5 hs).mono fun e w' q => post_none none' q
        | some q => exact (node_full5 h hl hi0 hi1 hi2 hi3 hi4 hi5 hs).mono fun e w' q => post_none none' q
      cases hi6 : isP wWas s
      rotate_left
      · cases hs : signP 65 (restP wWas s) with
        | none => exact (node_sign6 h hi0 hi1 hi2 hi3 hi4 hi5 hi6 hs).mono fun e w' q => post_none none' q
        | some q => exact (node_full6 h hl hi0 hi1 hi2 hi3 hi4 hi5 hi6 hs).mono fun e w' q => post_none none' q
      cases hi7 : isP wOpen s
      · exact (node_none h hi0 hi1 hi2 hi3 hi4 hi5 hi6 hi7).mono fun e w' q => post_none none' q
      · exact (node_full7 h hl hi0 hi1 hi2 hi3 hi4 hi5 hi6 hi7).mono fun e w' q => post_none none' q
    | succ l =>
      have hln : l < n := by omega
      have hl' : ps.length < 14 := by omega
      have hR : readT (n + 1) (l + 1) s = oneT (readT n) l s := rfl
      cases hi0 : isP wNothing s
      rotate_left
      · exact (node_leaf0 h hl' hi0).mono fun e w' q => post_some (t := .leaf ⟨0, 0⟩) (r := restP wNothing s) (by rw [hR]; simp [oneT, cutP_isP, hi0]) q
      cases hi1 : isP wPause s
      rotate_left
      · exact (node_leaf1 h hl' hi0 hi1).mono fun e w' q => post_some (t := .leaf ⟨1, 0⟩) (r := restP wPause s) (by rw [hR]; simp [oneT, cutP_isP, hi0, hi1]) q
      cases hi2 : isP wHalt s
      rotate_left
      · exact (node_leaf2 h hl' hi0 hi1 hi2).mono fun e w' q => post_some (t := .leaf ⟨2, 0⟩) (r := restP wHalt s) (by rw [hR]; simp [oneT, cutP_isP, hi0, hi1, hi2]) q
      cases hi3 : isP wEmit s
      rotate_left
      · cases hs : signP 65 (restP wEmit s) with
        | none => exact (node_sign3 h hi0 hi1 hi2 hi3 hs).mono fun e w' q => post_none (by rw [hR]; simp [oneT, cutP_isP, hi0, hi1, hi2, hi3, hs]) q
        | some q => exact (node_leaf3 h hl' hi0 hi1 hi2 hi3 hs).mono fun e w' q' => post_some (t := .leaf ⟨3, q.1⟩) (r := q.2) (by rw [hR]; simp [oneT, cutP_isP, hi0, hi1, hi2, hi3, hs]) q'
      cases hi4 : isP wAwait s
      rotate_left
      · cases hs : signP 120 (restP wAwait s) with
        | none => exact (node_sign4 h hi0 hi1 hi2 hi3 hi4 hs).mono fun e w' q => post_none (by rw [hR]; simp [oneT, cutP_isP, hi0, hi1, hi2, hi3, hi4, hs]) q
        | some q => exact (node_leaf4 h hl' hi0 hi1 hi2 hi3 hi4 hs).mono fun e w' q' => post_some (t := .leaf ⟨4, q.1⟩) (r := q.2) (by rw [hR]; simp [oneT, cutP_isP, hi0, hi1, hi2, hi3, hi4, hs]) q'
      cases hi5 : isP wIf s
      rotate_left
      · cases hs : signP 120 (restP wIf s) with
        | none => exact (node_sign5 h hi0 hi1 hi2 hi3 hi4 hi5 hs).mono fun e w' q => post_none (by rw [hR]; simp [oneT, cutP_isP, hi0, hi1, hi2, hi3, hi4, hi5, hs]) q
        | some q =>
          cases hf : forkT (readT n) l ⟨7, q.1⟩ q.2 with
          | none => exact (node_forkno5 h hN hl hln hi0 hi1 hi2 hi3 hi4 hi5 hs hf).mono fun e w' q => post_none (by rw [hR]; simp [oneT, cutP_isP, hi0, hi1, hi2, hi3, hi4, hi5, hs, hf]) q
          | some f => exact (node_fork5 h hN hl hln hi0 hi1 hi2 hi3 hi4 hi5 hs hf).mono fun e w' q => post_some (by rw [hR]; simp [oneT, cutP_isP, hi0, hi1, hi2, hi3, hi4, hi5, hs, hf]) q
      cases hi6 : isP wWas s
      rotate_left
      · cases hs : signP 65 (restP wWas s) with
        | none => exact (node_sign6 h hi0 hi1 hi2 hi3 hi4 hi5 hi6 hs).mono fun e w' q => post_none (by rw [hR]; simp [oneT, cutP_isP, hi0, hi1, hi2, hi3, hi4, hi5, hi6, hs]) q
        | some q =>
          cases hf : forkT (readT n) l ⟨8, q.1⟩ q.2 with
          | none => exact (node_forkno6 h hN hl hln hi0 hi1 hi2 hi3 hi4 hi5 hi6 hs hf).mono fun e w' q => post_none (by rw [hR]; simp [oneT, cutP_isP, hi0, hi1, hi2, hi3, hi4, hi5, hi6, hs, hf]) q
          | some f => exact (node_fork6 h hN hl hln hi0 hi1 hi2 hi3 hi4 hi5 hi6 hs hf).mono fun e w' q => post_some (by rw [hR]; simp [oneT, cutP_isP, hi0, hi1, hi2, hi3, hi4, hi5, hi6, hs, hf]) q
      cases hi7 : isP wOpen s
      · exact (node_none h hi0 hi1 hi2 hi3 hi4 hi5 hi6 hi7).mono fun e w' q => post_none (by rw [hR]; simp [oneT, cutP_isP, hi0, hi1, hi2, hi3, hi4, hi5, hi6, hi7]) q
      have hO : oneT (readT n) l s = openT (readT n) l (restP wOpen s) := by simp [oneT, cutP_isP, hi0, hi1, hi2, hi3, hi4, hi5, hi6, hi7]
      rw [hO] at hR; clear hO
      cases ha : readT n l (restP wOpen s) with
      | none => exact (open_a h hN hl hln hi0 hi1 hi2 hi3 hi4 hi5 hi6 hi7 ha).mono fun e w' q => post_none (by rw [hR]; simp [openT, ha]) q
      | some qa =>
        cases hb : isP wBar qa.2
        · cases hm : isP wSemi qa.2
          · exact (open_nosemi h hN hl hln hi0 hi1 hi2 hi3 hi4 hi5 hi6 hi7 ha hb hm).mono fun e w' q => post_none (by rw [hR]; simp [openT, cutP_isP, ha, hb, hm]) q
          · cases hc : readT n (l - qa.1.size) (restP wSemi qa.2) with
            | none => exact (open_semi_b h hN hl hln hi0 hi1 hi2 hi3 hi4 hi5 hi6 hi7 ha hb hm hc).mono fun e w' q => post_none (by rw [hR]; simp [openT, behindT, cutP_isP, ha, hb, hm, hc]) q
            | some qb =>
              cases hd : isP wClose qb.2
              · exact (open_semi_e h hN hl hln hi0 hi1 hi2 hi3 hi4 hi5 hi6 hi7 ha hb hm hc hd).mono fun e w' q => post_none (by rw [hR]; simp [openT, behindT, cutP_isP, ha, hb, hm, hc, hd]) q
              · exact (open_semi_ok h hN hl hln hi0 hi1 hi2 hi3 hi4 hi5 hi6 hi7 ha hb hm hc hd).mono fun e w' q => post_some (t := .two ⟨5, 0⟩ qa.1 qb.1) (r := restP wClose qb.2) (by rw [hR]; simp [openT, behindT, cutP_isP, ha, hb, hm, hc, hd]) (by rw [flat_two]; exact q)
        · cases hc : readT n (l - qa.1.size) (restP wBar qa.2) with
          | none => exact (open_bar_b h hN hl hln hi0 hi1 hi2 hi3 hi4 hi5 hi6 hi7 ha hb hc).mono fun e w' q => post_none (by rw [hR]; simp [openT, behindT, cutP_isP, ha, hb, hc]) q
          | some qb =>
            cases hd : isP wClose qb.2
            · exact (open_bar_e h hN hl hln hi0 hi1 hi2 hi3 hi4 hi5 hi6 hi7 ha hb hc hd).mono fun e w' q => post_none (by rw [hR]; simp [openT, behindT, cutP_isP, ha, hb, hc, hd]) q
            · exact (open_bar_ok h hN hl hln hi0 hi1 hi2 hi3 hi4 hi5 hi6 hi7 ha hb hc hd).mono fun e w' q => post_some (t := .two ⟨6, 0⟩ qa.1 qb.1) (r := restP wClose qb.2) (by rw [hR]; simp [openT, behindT, cutP_isP, ha, hb, hc, hd]) (by rw [flat_two]; exact q)
end Go.Proofs.Ytncakjhianmekaa
