/- The reference's stage: how it lies in memory; some, begin walked. -/
import Derived.Test.YtejpnbomlnifkaaWalkTurn
import Derived.Test.YtejpnbomlnifkaaTickPlain
namespace Go.Proofs.Ytejpnbomlnifkaa
set_option linter.unusedVariables false
set_option linter.unusedSimpArgs false
open Go.RowKit
attribute [local go_sem ↓] Go.wp_at_zero Go.wp_at_succ

/-- The stage in memory, and the state of its next rest. -/
structure RSt (w0 : World) (b g1 g2 g3 : Nat) (PA : Option Addr) (n pc : Nat) (fr : Bool) (WA : Option Addr) (wc : Nat) (OA : Option Addr) (oc ic : Nat) (ins : Int) (wr : World) (s : StM) : Prop where
  ext : Ext w0 wr
  hb : w0.heap.size ≤ b
  h1 : w0.heap.size ≤ g1
  h2 : w0.heap.size ≤ g2
  b1 : b ≠ g1
  b2 : b ≠ g2
  g12 : g1 ≠ g2
  g31 : g3 ≠ g1
  g32 : g3 ≠ g2
  c0 : wr.cell? ⟨b, 0, none⟩ = some (.slice PA n pc)
  c1 : wr.cell? ⟨b, 1, none⟩ = some (Bv fr)
  c2 : wr.cell? ⟨b, 2, none⟩ = some (.slice WA n wc)
  c3 : wr.cell? ⟨b, 3, none⟩ = some (.slice OA 3 oc)
  c4 : wr.cell? ⟨b, 4, none⟩ = some (.slice (some ⟨g3, 0, none⟩) 3 ic)
  c5 : wr.cell? ⟨b, 5, none⟩ = some (Bv false)
  c6 : wr.cell? ⟨b, 6, none⟩ = some (.slice (some ⟨g1, 0, none⟩) n n)
  c7 : wr.cell? ⟨b, 7, none⟩ = some (.slice (some ⟨g2, 0, none⟩) 3 3)
  bits : ∀ j x, (bitsM ins 3)[j]? = some x → wr.cell? ⟨g3, j, none⟩ = some (I x)
  W : wr.ownsRow w0.heap.size 4 1 (.slice (some ⟨g1, 0, none⟩) n n) n (s.W.map Bv)
  O : wr.ownsRow w0.heap.size 4 1 (.slice (some ⟨g2, 0, none⟩) 3 3) 3 (s.O.map Bv)
section
variable {w0 : World} {b g1 g2 g3 : Nat} {PA : Option Addr} {n pc : Nat} {fr : Bool} {WA : Option Addr} {wc : Nat} {OA : Option Addr} {oc ic : Nat} {ins : Int} {wr w' : World} {s s' : StM}
theorem RSt.off (h : RSt w0 b g1 g2 g3 PA n pc fr WA wc OA oc ic ins wr s) (k : Off g1 g2 wr w') (hW : w'.ownsRow w0.heap.size 4 1 (.slice (some ⟨g1, 0, none⟩) n n) n (s'.W.map Bv)) (hO : w'.ownsRow w0.heap.size 4 1 (.slice (some ⟨g2, 0, none⟩) 3 3) 3 (s'.O.map Bv)) :
    RSt w0 b g1 g2 g3 PA n pc fr WA wc OA oc ic ins w' s' :=
  ⟨k.ext h.ext h.h1 h.h2, h.hb, h.h1, h.h2, h.b1, h.b2, h.g12, h.g31, h.g32, k.cell h.c0 h.b1 h.b2, k.cell h.c1 h.b1 h.b2, k.cell h.c2 h.b1 h.b2, k.cell h.c3 h.b1 h.b2, k.cell h.c4 h.b1 h.b2, k.cell h.c5 h.b1 h.b2, k.cell h.c6 h.b1 h.b2, k.cell h.c7 h.b1 h.b2,
    fun j x hx => k.cell (h.bits j x hx) h.g31 h.g32, hW, hO⟩
theorem RSt.more (h : RSt w0 b g1 g2 g3 PA n pc fr WA wc OA oc ic ins wr s) (k : Ext wr w') : RSt w0 b g1 g2 g3 PA n pc fr WA wc OA oc ic ins w' s :=
  h.off (.of_ext k) (own_ext h.W k) (own_ext h.O k)
theorem RSt.setW (h : RSt w0 b g1 g2 g3 PA n pc fr WA wc OA oc ic ins wr s) (k : Nat) : RSt w0 b g1 g2 g3 PA n pc fr WA wc OA oc ic ins (wr.setCell ⟨g1, k, none⟩ (Bv true)) (waitSt s k) :=
  h.off ((Off.refl g1 g2 wr).set1 k _) (by have := (h.W.stored k (Bv true)).1; simpa [waitSt, List.map_set] using this) (own_other h.O (fun e => h.g12 (Option.some.inj e).symm))
theorem RSt.setO (h : RSt w0 b g1 g2 g3 PA n pc fr WA wc OA oc ic ins wr s) (k : Nat) : RSt w0 b g1 g2 g3 PA n pc fr WA wc OA oc ic ins (wr.setCell ⟨g2, k, none⟩ (Bv true)) (emitSt s k) :=
  h.off ((Off.refl g1 g2 wr).set2 k _) (own_other h.W (fun e => h.g12 (Option.some.inj e))) (by have := (h.O.stored k (Bv true)).1; simpa [emitSt, List.map_set] using this)
theorem set_false {l : List Bool} {k : Nat} (h : l[k]?.getD false = false) : l.set k false = l := by
  apply List.ext_getElem?
  intro j
  rw [List.getElem?_set]
  by_cases e : k = j
  · subst e
    rw [if_pos rfl]
    split
    · rename_i hl; rw [List.getElem?_eq_getElem hl] at h ⊢; simpa using h.symm
    · rename_i hl; rw [List.getElem?_eq_none (by omega)]
  · rw [if_neg e]
theorem RSt.setF (h : RSt w0 b g1 g2 g3 PA n pc fr WA wc OA oc ic ins wr s) {k : Nat} (hk : s.W[k]?.getD false = false) : RSt w0 b g1 g2 g3 PA n pc fr WA wc OA oc ic ins (wr.setCell ⟨g1, k, none⟩ (Bv false)) s :=
  h.off ((Off.refl g1 g2 wr).set1 k _) (by have := (h.W.stored k (Bv false)).1; rwa [← List.map_set, set_false hk] at this) (own_other h.O (fun e => h.g12 (Option.some.inj e).symm))
theorem RSt.bit (h : RSt w0 b g1 g2 g3 PA n pc fr WA wc OA oc ic ins wr s) {q : Nat} (hq : q < 3) : wr.cell? ⟨g3, q, none⟩ = some (I (ins / 2 ^ q % 2)) := h.bits q _ (bits_at ins 3 q hq)
end

theorem some_step {V : List Bool} {j m : Nat} {x : Bool} (hj : V[j]? = some x) : ((V.drop j).take (m + 1)).contains true = (x || ((V.drop (j + 1)).take m).contains true) := by
  have hl := (List.getElem?_eq_some_iff.1 hj).1
  have : V.drop j = x :: V.drop (j + 1) := by rw [List.drop_eq_getElem_cons hl]; congr 1; rw [List.getElem?_eq_getElem hl] at hj; injection hj
  rw [this, List.take_succ_cons, List.contains_cons]; cases x <;> simp

section
variable (w0 : World) (b g1 g2 g3 : Nat) (PA : Option Addr) (n pc : Nat) (fr : Bool) (WA : Option Addr) (wc : Nat) (OA : Option Addr) (oc ic : Nat) (ins : Int) (p : List PNode) (outs V : List Bool)
set_option maxHeartbeats 2000000 in
theorem rsome_any (wr : World) (s : StM) (h : RSt w0 b g1 g2 g3 PA n pc fr WA wc OA oc ic ins wr s)
    (hp : SlN w0 PA n p) (hV : Sl w0 WA n (V.map Bv)) (hn : n ≤ 14) (hK : p.any badKind = false) (k : Nat) (t : Tr) (ht : TreeAt p k t) (ok : t.ok) :
    Calls Try.prog 39 #[.pointer (some ⟨b, 0, none⟩), I k] wr fun e w' => e = .returned (.bool (someT V t k)) ∧ wr = w' := by
  have hle := ht.le
  have hpl := hp.1
  have hsz := size_pos t
  have hkn : k < n := by omega
  have hon := ht.one ok
  have hks : k + t.size ≤ n := by omega
  have c0 := h.c0; have c2 := h.c2
  have hP := hp.keep h.ext.keeps
  have hVV := Lib.hid (hV.keep h.ext.keeps)
  have hce := fun W (hW : SlN W PA n p) => end_any PA n pc p k W hW (by omega) hK hkn (by omega)
  rw [hon] at hce
  have HE := Lib.hid (hce wr hP)
  have hvl := hV.len
  generalize hR : someT V t k = R
  unfold someT at hR
  clear h hon ok hp hV ht hle hpl hce hP
  go_enter Try.func39, Try.ntmps39
  go_wp2
  go_loop [5] (fun i => ∃ j : Nat, k ≤ j ∧ j ≤ k + t.size ∧ i = .int .i64 j ∧ Hid (((V.drop j).take (k + t.size - j)).contains true = R)) (fun i => k + t.size - (intOf i).toNat)
  case atStart => exact ⟨k, Nat.le_refl _, by omega, rfl, by unfold Hid; rw [Nat.add_sub_cancel_left]; exact hR⟩
  case round =>
    obtain ⟨j, hj1, hj2, rfl, hM⟩ := hrel
    by_cases hlt : j < k + t.size
    · obtain ⟨wb, woff, x, rfl, hcx, hx⟩ := hVV.out.at_ (show j < n by omega)
      have hst := some_step (m := k + t.size - (j + 1)) hx
      rw [show k + t.size - (j + 1) + 1 = k + t.size - j from by omega] at hst
      have HST := Lib.hid hst
      have hlt' : (j : Int) < (k : Int) + t.size := by omega
      clear hst hx hR
      cases x
      · go_wp2_with fail
        refine HE.out.mono ?_; rintro e w' ⟨rfl, rfl⟩
        go_wp2
        go_round
        case rel => exact ⟨j + 1, by omega, by omega, by go_num, by unfold Hid; rw [← hM.out, HST.out]; simp⟩
        case measure => simp [intOf]; omega
      · go_wp2_with fail
        refine HE.out.mono ?_; rintro e w' ⟨rfl, rfl⟩
        go_wp2
        go_ret; exact ⟨ret_bool (by rw [← hM.out, HST.out]; simp), rfl⟩
    · have hje : j = k + t.size := by omega
      subst hje
      have hlt' : ¬ ((k + t.size : Nat) : Int) < (k : Int) + t.size := by omega
      clear hR
      go_wp2_with fail
      refine HE.out.mono ?_; rintro e w' ⟨rfl, rfl⟩
      go_wp2
      go_ret; exact ⟨ret_bool (by rw [← hM.out]; simp), rfl⟩
end
end Go.Proofs.Ytejpnbomlnifkaa
