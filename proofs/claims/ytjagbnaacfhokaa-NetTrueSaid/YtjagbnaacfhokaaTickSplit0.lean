/- append onto an own row of no room, at a step of a region that draws. -/
import Derived.Test.YtjagbnaacfhokaaAppend
namespace Go.Proofs.Ytjagbnaacfhokaa
set_option linter.unusedVariables false
set_option linter.unusedSimpArgs false
open Go.RowKit

/-- append onto a row of no room: what was there stays. -/
theorem step_append0 {P : Program} {ops : Array Oper} {o : Oper} {a : Act} {K : Act → World → Prop} {Q : Exit → Act → World → Prop} {w : World} {E : Prop} (hgd : o.guard = none) (s x : Operand) (t e : TypeId)
    (ho : o.op = .call { callee := .builtin .append, args := #[s, x], argTypes := #[t, t] })
    {z : Value} {bytes : Nat} (tab : (P.info? e).map (fun i => (i.zero, i.size, i.bytes)) = some (some z, 1, bytes)) (ht : P.underlying t = some (.slice e)) (hzs : z.cells.size = 1) (h8 : bytes ≤ 65536)
    (W0 : World) (hext : Ext W0 w) (b : Nat) (hs : a.eval s = .slice (some ⟨b, 0, none⟩) 0 0) (hown : w.ownsRow W0.heap.size e 1 (.slice (some ⟨b, 0, none⟩) 0 0) 0 [])
    (A : Option Addr) (m c : Nat) (news : List Value) (hx : a.eval x = .slice A m c) (hr : Sl w A m news) (h1 : ∀ u ∈ news, u.oneCell' = true)
    (hbytes : m * bytes ≤ 140737489403904) (hm4 : m ≤ 9007199254740992)
    (h : ∀ v' w', w'.ownsRow W0.heap.size e 1 v' m news → Ext W0 w' → Keeps w w' → K (a.put o.dst v') w') :
    if Region.wanted o (yielded ops a.tmps) = true then Oper.wp P o a w K Q else E := by
  refine step_appendBig hgd s x t e ho tab ht hzs h8 W0 hext _ 0 [] hs hown A m c news hx hr h1 (by rw [Nat.zero_add]; exact hbytes) (by omega) fun v' w' k1 k2 k3 _ => ?_
  rw [Nat.zero_add, List.nil_append] at k1
  refine h v' w' k1 k2 fun ad u hu => ?_
  by_cases hb : ad.block = b
  · exfalso
    rcases hown.2 with ⟨e1, _⟩ | ⟨g, cap, cur, e1, _, hg, _, _, hcs, _⟩
    · cases e1
    · injection e1 with e1 _ e3
      injection e1 with e1; injection e1 with e1
      subst e1; subst e3
      have h0 : cur.size = 0 := by simpa using hcs
      have h00 : cur = #[] := Array.eq_empty_of_size_eq_zero h0
      subst h00
      unfold World.cell? at hu
      rw [hb, hg] at hu
      simp at hu
  · exact k3.cell hu (fun e => hb (by first | simpa [Value.ownBlock] using e.symm | simpa [Value.ownBlock] using e))

theorem own_emptyAt (w : World) (e : TypeId) (size base b : Nat) (hb : b = w.heap.size) (h : base ≤ w.heap.size) : (w.alloc (.cells #[] e)).drew.ownsRow base e size (.slice (some ⟨b, 0, none⟩) 0 0) 0 [] := by
  subst hb; exact own_empty w.drew e size base h
end Go.Proofs.Ytjagbnaacfhokaa
