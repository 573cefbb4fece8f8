/- The reference's stage: how it lies in memory; some, begin walked. -/
import Derived.Test.YtlafiddfplhafaaFc17
import Derived.Test.YtlafiddfplhafaaFc02
import Derived.Test.YtlafiddfplhafaaFc10
import Derived.Test.YtlafiddfplhafaaFc07
namespace Go.Proofs.Ytlafiddfplhafaa
set_option linter.unusedVariables false
set_option linter.unusedSimpArgs false
set_option linter.unusedVariables false
set_option linter.unusedSimpArgs false
open Go.RowKit
attribute [local go_sem ↓] Go.wp_at_zero Go.wp_at_succ
/-- The stage in memory, and the state of its next rest. -/
structure RSt (w0 : World) (b g1 g2 g3 : Nat) (PA : Option Addr) (n pc : Nat) (fr : Bool) (WA : Option Addr) (wc : Nat) (OA : Option Addr) (oc ic : Nat) (ins : Int) (wr : World) (s : StM) : Prop where
  ext : Ext w0 wr
  hb : w0.heap.size ≤ b
  h1 : w0.heap.size ≤ g1
  h2 : w0.heap.size ≤ g2
  b1 : b ≠ g1
  b2 : b ≠ g2
  g12 : g1 ≠ g2
  g31 : g3 ≠ g1
  g32 : g3 ≠ g2
  c0 : wr.cell? ⟨b, 0, none⟩ = some (.slice PA n pc)
  c1 : wr.cell? ⟨b, 1, none⟩ = some (Bv fr)
  c2 : wr.cell? ⟨b, 2, none⟩ = some (.slice WA n wc)
  c3 : wr.cell? ⟨b, 3, none⟩ = some (.slice OA 3 oc)
  c4 : wr.cell? ⟨b, 4, none⟩ = some (.slice (some ⟨g3, 0, none⟩) 3 ic)
  c5 : wr.cell? ⟨b, 5, none⟩ = some (Bv false)
  c6 : wr.cell? ⟨b, 6, none⟩ = some (.slice (some ⟨g1, 0, none⟩) n n)
  c7 : wr.cell? ⟨b, 7, none⟩ = some (.slice (some ⟨g2, 0, none⟩) 3 3)
  bits : ∀ j x, (bitsM ins 3)[j]? = some x → wr.cell? ⟨g3, j, none⟩ = some (I x)
  W : wr.ownsRow w0.heap.size 4 1 (.slice (some ⟨g1, 0, none⟩) n n) n (s.W.map Bv)
  O : wr.ownsRow w0.heap.size 4 1 (.slice (some ⟨g2, 0, none⟩) 3 3) 3 (s.O.map Bv)
section
variable {w0 : World} {b g1 g2 g3 : Nat} {PA : Option Addr} {n pc : Nat} {fr : Bool} {WA : Option Addr} {wc : Nat} {OA : Option Addr} {oc ic : Nat} {ins : Int} {wr w' : World} {s s' : StM}
theorem RSt.off (h : RSt w0 b g1 g2 g3 PA n pc fr WA wc OA oc ic ins wr s) (k : Off g1 g2 wr w') (hW : w'.ownsRow w0.heap.size 4 1 (.slice (some ⟨g1, 0, none⟩) n n) n (s'.W.map Bv)) (hO : w'.ownsRow w0.heap.size 4 1 (.slice (some ⟨g2, 0, none⟩) 3 3) 3 (s'.O.map Bv)) :
    RSt w0 b g1 g2 g3 PA n pc fr WA wc OA oc ic ins w' s' :=
  ⟨k.ext h.ext h.h1 h.h2, h.hb, h.h1, h.h2, h.b1, h.b2, h.g12, h.g31, h.g32, k.cell h.c0 h.b1 h.b2, k.cell h.c1 h.b1 h.b2, k.cell h.c2 h.b1 h.b2, k.cell h.c3 h.b1 h.b2, k.cell h.c4 h.b1 h.b2, k.cell h.c5 h.b1 h.b2, k.cell h.c6 h.b1 h.b2, k.cell h.c7 h.b1 h.b2,
    fun j x hx => k.cell (h.bits j x hx) h.g31 h.g32, hW, hO⟩
theorem RSt.more (h : RSt w0 b g1 g2 g3 PA n pc fr WA wc OA oc ic ins wr s) (k : Ext wr w') : RSt w0 b g1 g2 g3 PA n pc fr WA wc OA oc ic ins w' s :=
  h.off (.of_ext k) (own_ext h.W k) (own_ext h.O k)
theorem RSt.setW (h : RSt w0 b g1 g2 g3 PA n pc fr WA wc OA oc ic ins wr s) (k : Nat) : RSt w0 b g1 g2 g3 PA n pc fr WA wc OA oc ic ins (wr.setCell ⟨g1, k, none⟩ (Bv true)) (waitSt s k) :=
  h.off ((Off.refl g1 g2 wr).set1 k _) (by have := (h.W.stored k (Bv true)).1; simpa [waitSt, List.map_set] using this) (own_other h.O (fun e => h.g12 (Option.some.inj e).symm))
theorem RSt.setO (h : RSt w0 b g1 g2 g3 PA n pc fr WA wc OA oc ic ins wr s) (k : Nat) : RSt w0 b g1 g2 g3 PA n pc fr WA wc OA oc ic ins (wr.setCell ⟨g2, k, none⟩ (Bv true)) (emitSt s k) :=
  h.off ((Off.refl g1 g2 wr).set2 k _) (own_other h.W (fun e => h.g12 (Option.some.inj e))) (by have := (h.O.stored k (Bv true)).1; simpa [emitSt, List.map_set] using this)
theorem RSt.bit (h : RSt w0 b g1 g2 g3 PA n pc fr WA wc OA oc ic ins wr s) {q : Nat} (hq : q < 3) : wr.cell? ⟨g3, q, none⟩ = some (I (ins / 2 ^ q % 2)) := h.bits q _ (bits_at ins 3 q hq)
end
section
variable (w0 : World) (b g1 g2 g3 : Nat) (PA : Option Addr) (n pc : Nat) (fr : Bool) (WA : Option Addr) (wc : Nat) (OA : Option Addr) (oc ic : Nat) (ins : Int) (p : List PNode) (outs V : List Bool)
end
end Go.Proofs.Ytlafiddfplhafaa
/- The reference's begin and on walked. (Printed by walkref2.py.) -/
namespace Go.Proofs.Ytlafiddfplhafaa
set_option linter.unusedVariables false
set_option linter.unusedSimpArgs false
open Go.RowKit
attribute [local go_sem ↓] Go.wp_at_zero Go.wp_at_succ
section
variable (w0 : World) (b g1 g2 g3 : Nat) (PA : Option Addr) (n pc : Nat) (fr : Bool) (WA : Option Addr) (wc : Nat) (OA : Option Addr) (oc ic : Nat) (ins : Int) (p : List PNode) (outs V : List Bool)
end
end Go.Proofs.Ytlafiddfplhafaa
/- The reference's on walked. -/
namespace Go.Proofs.Ytlafiddfplhafaa
set_option linter.unusedVariables false
set_option linter.unusedSimpArgs false
open Go.RowKit
attribute [local go_sem ↓] Go.wp_at_zero Go.wp_at_succ
section
variable (w0 : World) (b g1 g2 g3 : Nat) (PA : Option Addr) (n pc : Nat) (fr : Bool) (WA : Option Addr) (wc : Nat) (OA : Option Addr) (oc ic : Nat) (ins : Int) (p : List PNode) (outs V : List Bool)
end
end Go.Proofs.Ytlafiddfplhafaa
/- The reference's on walked: two-part nodes. -/
namespace Go.Proofs.Ytlafiddfplhafaa
set_option linter.unusedVariables false
set_option linter.unusedSimpArgs false
open Go.RowKit
attribute [local go_sem ↓] Go.wp_at_zero Go.wp_at_succ
section
variable (w0 : World) (b g1 g2 g3 : Nat) (PA : Option Addr) (n pc : Nat) (fr : Bool) (WA : Option Addr) (wc : Nat) (OA : Option Addr) (oc ic : Nat) (ins : Int) (p : List PNode) (outs V : List Bool)
end
end Go.Proofs.Ytlafiddfplhafaa
/- net.Needs, and the reference's NeedsError, NeedsOf walked. -/
namespace Go.Proofs.Ytlafiddfplhafaa
set_option linter.unusedVariables false
set_option linter.unusedSimpArgs false
open Go.RowKit
section
variable (i : Int) (GA : Option Addr) (gn gc : Nat) (RA : Option Addr) (rn rc : Nat) (OA : Option Addr) (on oc : Nat) (N : NetM) (A : Option Addr) (n c : Nat) (l : List Int) (w : World)
end
end Go.Proofs.Ytlafiddfplhafaa
