/- net.Needs, and the reference's NeedsError, NeedsOf walked. -/
import Derived.Test.YtjagbnaacfhokaaNetNeed
import Derived.Test.YtjagbnaacfhokaaNetRef
namespace Go.Proofs.Ytjagbnaacfhokaa
set_option linter.unusedVariables false
set_option linter.unusedSimpArgs false
open Go.RowKit

def needsE (N : NetM) (l : List Int) : Int := if checkN N ≠ 0 then checkN N else if l.any (badPlace N.gates.length) then 3 else 0
theorem needsE_ok {N : NetM} {l : List Int} (h : needsE N l = 0) : checkN N = 0 ∧ inR N.gates.length l := by
  unfold needsE at h
  by_cases h0 : checkN N = 0
  · rw [if_neg (by simp [h0])] at h
    refine ⟨h0, fun k hk => ?_⟩
    cases hb : l.any (badPlace N.gates.length) with
    | true => rw [hb] at h; simp at h
    | false => have := List.any_eq_false.1 hb k hk; simp [badPlace] at this; omega
  · rw [if_pos h0] at h; exact absurd h h0
theorem inR_any {n : Nat} {l : List Int} (h : inR n l) : l.any (badPlace n) = false := List.any_eq_false.2 fun k hk => by have := h k hk; simp [badPlace]; omega

section
variable (i : Int) (GA : Option Addr) (gn gc : Nat) (RA : Option Addr) (rn rc : Nat) (OA : Option Addr) (on oc : Nat) (N : NetM) (A : Option Addr) (n c : Nat) (l : List Int) (w : World)

theorem netNeeds_err (h : NetC w i GA gn gc RA rn rc OA on oc N) (hs : Sl w A n (l.map I)) (hn : n ≤ maxLen) (e : Int) (he : needsE N l = e) (h0 : (e != 0) = true) :
    Calls Try.prog 26 #[netV i GA gn gc RA rn rc OA on oc, .slice A n c] w fun e' w' => e' = .returned (Pr (.slice none 0 0) (I e)) ∧ Ext w w' := by
  have hgl : N.gates.length = gn := h.gates.1
  have hgm : gn ≤ maxLen := Nat.le_trans h.gl.1 h.gl.2
  unfold needsE at he
  obtain ⟨W, hW⟩ : ∃ W, W = w.alloc (.cells #[I i, .slice GA gn gc, .slice RA rn rc, .slice OA on oc] 26) := ⟨_, rfl⟩
  have hxW : Ext w W := by rw [hW]; exact (Ext.refl _).alloc _
  have HBox : Hid (NetBox W w.heap.size i GA gn gc RA rn rc OA on oc) := by unfold Hid; rw [hW]; exact NetBox.new w i GA gn gc RA rn rc OA on oc _
  have HN := Lib.hid (h.keep hxW.keeps); have HS := Lib.hid (hs.keep hxW.keeps)
  have HW := Lib.hid hW; clear hW h hs
  by_cases hc : checkN N = 0
  · rw [if_neg (by simp [hc]), hgl] at he
    have hb : l.any (badPlace gn) = true := by
      cases hb : l.any (badPlace gn) with
      | true => rfl
      | false => rw [hb] at he; simp at he; subst he; cases h0
    rw [hb] at he
    have he3 : e = 3 := by simpa using he.symm
    subst he3
    have HC := Lib.hid hc; have HB := Lib.hid hb; clear hc hb he h0
    go_enter Try.func26, Try.ntmps26
    go_wp2_with fail
    rw [← HW.out]
    refine (netCheck_any i GA gn gc RA rn rc OA on oc N W HN.out).mono ?_; rintro e' w1 ⟨rfl, h1⟩; rw [HC.out]
    go_wp2_with fail
    refine (containsFunc_any A n c l _ _ _ w1 (HS.out.keep h1.keeps) hn (asks_needs1 w.heap.size i GA gn gc RA rn rc OA on oc w1 (HBox.out.keep h1.keeps) hgm)).mono ?_; rintro e' w' ⟨rfl, rfl⟩; rw [HB.out]
    go_wp2
    go_ret2
    exact ⟨rfl, hxW.trans h1⟩
  · rw [if_pos hc] at he
    have HE := Lib.hid he; clear he hc
    go_enter Try.func26, Try.ntmps26
    go_wp2_with fail
    rw [← HW.out]
    refine (netCheck_any i GA gn gc RA rn rc OA on oc N W HN.out).mono ?_; rintro e' w1 ⟨rfl, h1⟩; rw [HE.out]
    go_wp2
    go_ret2
    exact ⟨rfl, hxW.trans h1⟩

theorem netNeeds_ok (h : NetC w i GA gn gc RA rn rc OA on oc N) (hs : Sl w A n (l.map I)) (hn : n * 8 ≤ 140737488355328) (he : needsE N l = 0) :
    Calls Try.prog 26 #[netV i GA gn gc RA rn rc OA on oc, .slice A n c] w fun e' w' => ∃ v, e' = .returned (Pr v (I 0)) ∧ w'.ownsRow w.heap.size 4 1 v gn ((needsM N.gates l).map Bv) ∧ Ext w w' := by
  have hgl : N.gates.length = gn := h.gates.1
  have hgm : gn ≤ maxLen := Nat.le_trans h.gl.1 h.gl.2
  obtain ⟨hc, hr⟩ := needsE_ok he
  have ok := checkN_ok hc
  have hb := inR_any hr
  rw [hgl] at hb
  obtain ⟨W, hW⟩ : ∃ W, W = w.alloc (.cells #[I i, .slice GA gn gc, .slice RA rn rc, .slice OA on oc] 26) := ⟨_, rfl⟩
  have hxW : Ext w W := by rw [hW]; exact (Ext.refl _).alloc _
  have hbox : NetBox W w.heap.size i GA gn gc RA rn rc OA on oc := by rw [hW]; exact NetBox.new w i GA gn gc RA rn rc OA on oc _
  have HBox := Lib.hid hbox
  have HN := Lib.hid (h.keep hxW.keeps); have HS := Lib.hid (hs.keep hxW.keeps)
  have HW := Lib.hid hW; have HC := Lib.hid hc; have HB := Lib.hid hb; have HR := Lib.hid hr; have HOK := Lib.hid ok
  clear hW h hs hc hb hr ok he hgl hbox
  go_enter Try.func26, Try.ntmps26
  go_wp2_with fail
  rw [← HW.out]
  refine (netCheck_any i GA gn gc RA rn rc OA on oc N W HN.out).mono ?_; rintro e' w1 ⟨rfl, h1⟩; rw [HC.out]
  obtain ⟨q0, q1, q2, q3⟩ := HBox.out.keep h1.keeps
  go_wp2_with fail
  refine (containsFunc_any A n c l _ _ _ w1 (HS.out.keep h1.keeps) (by unfold maxLen; omega) (asks_needs1 w.heap.size i GA gn gc RA rn rc OA on oc w1 (HBox.out.keep h1.keeps) hgm)).mono ?_; rintro e' w' ⟨rfl, rfl⟩; rw [HB.out]
  go_wp2_with fail
  refine (needed_any i GA gn gc RA rn rc OA on oc N A n c l w1 (HN.out.keep h1.keeps) (HS.out.keep h1.keeps) HOK.out HR.out hn).mono ?_; rintro e' w2 ⟨v, rfl, hown, h2⟩
  have HO := Lib.hid hown; clear hown
  go_wp2
  go_ret2
  exact ⟨_, rfl, own_base HO.out (hxW.trans h1).size, (hxW.trans h1).trans h2⟩

end
end Go.Proofs.Ytjagbnaacfhokaa
