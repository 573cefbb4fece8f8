/- The reference's reader of texts, whatever it reads; ProgFrom. -/
import Derived.Test.YtncakjhianmekaaTextFromB
import Derived.Test.YtncakjhianmekaaTextShow2
namespace Go.Proofs.Ytncakjhianmekaa
set_option linter.unusedVariables false
set_option linter.unusedSimpArgs false
open Go.RowKit

theorem u8_ne {c d : UInt8} (h : c ≠ d) : c.toNat ≠ d.toNat := fun e => h (UInt8.toNat_inj.1 e)
theorem sign_cases65 (c : UInt8) (r : List UInt8) : (c.toNat < 65 ∧ signP 65 (c :: r) = none) ∨ (67 < c.toNat ∧ signP 65 (c :: r) = none) ∨ (c = 65 ∧ signP 65 (c :: r) = some (0, r)) ∨ (c = 66 ∧ signP 65 (c :: r) = some (1, r)) ∨ (c = 67 ∧ signP 65 (c :: r) = some (2, r)) := by
  by_cases e0 : c = 65
  · subst e0; exact .inr (.inr (.inl ⟨rfl, rfl⟩))
  by_cases e1 : c = 66
  · subst e1; exact .inr (.inr (.inr (.inl ⟨rfl, rfl⟩)))
  by_cases e2 : c = 67
  · subst e2; exact .inr (.inr (.inr (.inr ⟨rfl, rfl⟩)))
  have hn : signP 65 (c :: r) = none := by
    simp only [signP]
    rw [if_neg e0, if_neg (show ¬ c = 65 + 1 from e1), if_neg (show ¬ c = 65 + 2 from e2)]
  have n0 := u8_ne e0; have n1 := u8_ne e1; have n2 := u8_ne e2
  rw [show (65 : UInt8).toNat = 65 from rfl] at n0
  rw [show (66 : UInt8).toNat = 66 from rfl] at n1
  rw [show (67 : UInt8).toNat = 67 from rfl] at n2
  rcases Nat.lt_or_ge c.toNat 65 with h | h
  · exact .inl ⟨h, hn⟩
  · exact .inr (.inl ⟨by omega, hn⟩)
theorem sign_cases120 (c : UInt8) (r : List UInt8) : (c.toNat < 120 ∧ signP 120 (c :: r) = none) ∨ (122 < c.toNat ∧ signP 120 (c :: r) = none) ∨ (c = 120 ∧ signP 120 (c :: r) = some (0, r)) ∨ (c = 121 ∧ signP 120 (c :: r) = some (1, r)) ∨ (c = 122 ∧ signP 120 (c :: r) = some (2, r)) := by
  by_cases e0 : c = 120
  · subst e0; exact .inr (.inr (.inl ⟨rfl, rfl⟩))
  by_cases e1 : c = 121
  · subst e1; exact .inr (.inr (.inr (.inl ⟨rfl, rfl⟩)))
  by_cases e2 : c = 122
  · subst e2; exact .inr (.inr (.inr (.inr ⟨rfl, rfl⟩)))
  have hn : signP 120 (c :: r) = none := by
    simp only [signP]
    rw [if_neg e0, if_neg (show ¬ c = 120 + 1 from e1), if_neg (show ¬ c = 120 + 2 from e2)]
  have n0 := u8_ne e0; have n1 := u8_ne e1; have n2 := u8_ne e2
  rw [show (120 : UInt8).toNat = 120 from rfl] at n0
  rw [show (121 : UInt8).toNat = 121 from rfl] at n1
  rw [show (122 : UInt8).toNat = 122 from rfl] at n2
  rcases Nat.lt_or_ge c.toNat 120 with h | h
  · exact .inl ⟨h, hn⟩
  · exact .inr (.inl ⟨by omega, hn⟩)
theorem from_ok : ∀ n, FromOK n
  | 0 => fun w s left hs h0 h1 hn => from_zero w s left (by omega)
  | n + 1 => fun w s left hs h0 h1 hn => by
    have hN := from_ok n
    rcases Int.lt_or_le 0 left with hp | hp
    rotate_left
    · rw [show left.toNat = 0 from by omega]
      exact from_zero w s left hp
    obtain ⟨l, rfl⟩ : ∃ l : Nat, left = (l : Int) + 1 := ⟨(left - 1).toNat, by omega⟩
    have hl : l ≤ 13 := by omega
    have hln : l < n := by omega
    rw [show ((l : Int) + 1).toNat = l + 1 from by omega]
    have hR : rreadT (n + 1) (l + 1) s = roneT (rreadT n) l s := rfl
    rw [hR]
    cases hi0 : isP wNothing s
    rotate_left
    · rw [show roneT (rreadT n) l s = some (.leaf ⟨0, 0⟩, restP wNothing s) from by simp [roneT, cutP_isP, hi0]]
      exact from_p0 w s l hs hl hi0
    cases hi1 : isP wPause s
    rotate_left
    · rw [show roneT (rreadT n) l s = some (.leaf ⟨1, 0⟩, restP wPause s) from by simp [roneT, cutP_isP, hi0, hi1]]
      exact from_p1 w s l hs hl hi0 hi1
    cases hi2 : isP wHalt s
    rotate_left
    · rw [show roneT (rreadT n) l s = some (.leaf ⟨2, 0⟩, restP wHalt s) from by simp [roneT, cutP_isP, hi0, hi1, hi2]]
      exact from_p2 w s l hs hl hi0 hi1 hi2
    cases hi3 : isP wEmit s
    rotate_left
    · rw [show roneT (rreadT n) l s = (signP 65 (restP wEmit s)).map fun y => (.leaf ⟨3, y.1⟩, y.2) from by simp [roneT, cutP_isP, hi0, hi1, hi2, hi3]]
      cases hq : restP wEmit s with
      | nil => exact from_w3_nil w s l hs hl hi0 hi1 hi2 hi3 hq
      | cons c r =>
        rcases sign_cases65 c r with ⟨h, hz⟩ | ⟨h, hz⟩ | ⟨h, hz⟩ | ⟨h, hz⟩ | ⟨h, hz⟩
        · rw [hz]; exact from_w3_lo w s l hs hl hi0 hi1 hi2 hi3 hq h
        · rw [hz]; exact from_w3_hi w s l hs hl hi0 hi1 hi2 hi3 hq h
        · rw [hz]; subst h; exact from_w3_0 w s l hs hl hi0 hi1 hi2 hi3 hq
        · rw [hz]; subst h; exact from_w3_1 w s l hs hl hi0 hi1 hi2 hi3 hq
        · rw [hz]; subst h; exact from_w3_2 w s l hs hl hi0 hi1 hi2 hi3 hq
    cases hi4 : isP wAwait s
    rotate_left
    · rw [show roneT (rreadT n) l s = (signP 120 (restP wAwait s)).map fun y => (.leaf ⟨4, y.1⟩, y.2) from by simp [roneT, cutP_isP, hi0, hi1, hi2, hi3, hi4]]
      cases hq : restP wAwait s with
      | nil => exact from_w4_nil w s l hs hl hi0 hi1 hi2 hi3 hi4 hq
      | cons c r =>
        rcases sign_cases120 c r with ⟨h, hz⟩ | ⟨h, hz⟩ | ⟨h, hz⟩ | ⟨h, hz⟩ | ⟨h, hz⟩
        · rw [hz]; exact from_w4_lo w s l hs hl hi0 hi1 hi2 hi3 hi4 hq h
        · rw [hz]; exact from_w4_hi w s l hs hl hi0 hi1 hi2 hi3 hi4 hq h
        · rw [hz]; subst h; exact from_w4_0 w s l hs hl hi0 hi1 hi2 hi3 hi4 hq
        · rw [hz]; subst h; exact from_w4_1 w s l hs hl hi0 hi1 hi2 hi3 hi4 hq
        · rw [hz]; subst h; exact from_w4_2 w s l hs hl hi0 hi1 hi2 hi3 hi4 hq
    cases hi5 : isP wIf s
    rotate_left
    · rw [show roneT (rreadT n) l s = (signP 120 (restP wIf s)).bind fun y => rtwoT (rreadT n) l ⟨7, y.1⟩ wThen wElse wEnd y.2 from by simp [roneT, cutP_isP, hi0, hi1, hi2, hi3, hi4, hi5]]
      cases hq : restP wIf s with
      | nil => exact from_w5_nil w s l hs hl hi0 hi1 hi2 hi3 hi4 hi5 hq
      | cons c r =>
        rcases sign_cases120 c r with ⟨h, hz⟩ | ⟨h, hz⟩ | ⟨h, hz⟩ | ⟨h, hz⟩ | ⟨h, hz⟩
        · rw [hz]; exact from_w5_lo w s l hs hl hi0 hi1 hi2 hi3 hi4 hi5 hq h
        · rw [hz]; exact from_w5_hi w s l hs hl hi0 hi1 hi2 hi3 hi4 hi5 hq h
        · rw [hz]; subst h; exact from_w5_0 w s l hs hl hi0 hi1 hi2 hi3 hi4 hi5 hq hN hln rfl
        · rw [hz]; subst h; exact from_w5_1 w s l hs hl hi0 hi1 hi2 hi3 hi4 hi5 hq hN hln rfl
        · rw [hz]; subst h; exact from_w5_2 w s l hs hl hi0 hi1 hi2 hi3 hi4 hi5 hq hN hln rfl
    cases hi6 : isP wWas s
    rotate_left
    · rw [show roneT (rreadT n) l s = (signP 65 (restP wWas s)).bind fun y => rtwoT (rreadT n) l ⟨8, y.1⟩ wThen wElse wEnd y.2 from by simp [roneT, cutP_isP, hi0, hi1, hi2, hi3, hi4, hi5, hi6]]
      cases hq : restP wWas s with
      | nil => exact from_w6_nil w s l hs hl hi0 hi1 hi2 hi3 hi4 hi5 hi6 hq
      | cons c r =>
        rcases sign_cases65 c r with ⟨h, hz⟩ | ⟨h, hz⟩ | ⟨h, hz⟩ | ⟨h, hz⟩ | ⟨h, hz⟩
        · rw [hz]; exact from_w6_lo w s l hs hl hi0 hi1 hi2 hi3 hi4 hi5 hi6 hq h
        · rw [hz]; exact from_w6_hi w s l hs hl hi0 hi1 hi2 hi3 hi4 hi5 hi6 hq h
        · rw [hz]; subst h; exact from_w6_0 w s l hs hl hi0 hi1 hi2 hi3 hi4 hi5 hi6 hq hN hln rfl
        · rw [hz]; subst h; exact from_w6_1 w s l hs hl hi0 hi1 hi2 hi3 hi4 hi5 hi6 hq hN hln rfl
        · rw [hz]; subst h; exact from_w6_2 w s l hs hl hi0 hi1 hi2 hi3 hi4 hi5 hi6 hq hN hln rfl
    cases hi7 : isP wOpen s
    · rw [show roneT (rreadT n) l s = none from by simp [roneT, cutP_isP, hi0, hi1, hi2, hi3, hi4, hi5, hi6, hi7]]
      exact from_none w s l hs hl hi0 hi1 hi2 hi3 hi4 hi5 hi6 hi7
    · rw [show roneT (rreadT n) l s = (rtwoT (rreadT n) l ⟨5, 0⟩ [] wSemi wClose (restP wOpen s)).or (rtwoT (rreadT n) l ⟨6, 0⟩ [] wBar wClose (restP wOpen s)) from by
        simp [roneT, cutP_isP, hi0, hi1, hi2, hi3, hi4, hi5, hi6, hi7]; cases rtwoT (rreadT n) l ⟨5, 0⟩ [] wSemi wClose (restP wOpen s) <;> rfl]
      exact from_open w s l hs hl hi0 hi1 hi2 hi3 hi4 hi5 hi6 hi7 hN hln rfl rfl

/-- What ProgFrom tells. -/
def progFromV (s : List UInt8) : Option Tr := progOfText s
section
variable (s : List UInt8) (w : World) (hs : s.length ≤ 4096)
include hs
end
end Go.Proofs.Ytncakjhianmekaa
