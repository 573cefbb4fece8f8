/-
  No cell of these rows narrows 'for every input' (looked for: loops, veiled, ifaces, maps, wideKeys, modest, calm, conditions, laid).
  DERIVED. THE GIVEN ROWS OF THIS SEAT. 3 by the template 'for every input the law returns true; each argument reads behind the call as it read before'; 0 by the template 'total and deterministic' (their statements: YtnlkidmlpipdmaaTotals.lean).
  GIVEN WITH THE SEED: the statements are not yours to turn. If you find one false, say at which input.
  Laid BY PROGRAM, IN A SANDBOX (cutbox-rows.mjs): the forced cells as the released guide's own fill.sh prints them over the translation 0e0d5f9769b8de31… (all of the seat's roots in one cut). By AI agents, Wed Nov 11 2026. No macro, syntax, notation, axiom, sorry.
-/
import Derived.Test.YtnlkidmlpipdmaaChecked
import GoSem.Claim
import GoSem.ClaimJoined
import GoSem.ClaimMapViews
import Derived.JoinedTies
import Derived.KernelRfl
namespace Go.Proofs.Ytnlkidmlpipdmaa
/- THE CELL 'sum', in the pinned program and in every row, IS THE sha256 OF THE DUMP (.gsa) THAT YtnlkidmlpipdmaaProg.lean LOADS. Nothing in Lean hashes anything: it is a label: what it is worth is what the hold of that sum in a sandbox is worth. -/
noncomputable def Try.pinned : Pinned := { name := "ytnlkidmlpipdmaa", sum := "0e0d5f9769b8de3146d789a3f3d891b3d1ddde2b570d36d815eba8c0135f663d", checked := Try.checked }
namespace Rows
def none {H : Type} : Left H := { results := [], args := [] }

/-- 'linchpinlaw.TernTells': WHATEVER THE INPUT: true; the input reads as it did. -/
def ternTellsSpec : ChangeSpec := { name := "ternTells", fn := fun _ => fun
  | [d] => { results := [.lit (.bool true)], args := [d] }
  | _ => none }
def ternTellsRow : OpenClaim := { program := "ytnlkidmlpipdmaa", sum := "0e0d5f9769b8de3146d789a3f3d891b3d1ddde2b570d36d815eba8c0135f663d", func := "linchpin/linchpinlaw.TernTells", spec := "ternTells", unfollowed := true, recurses := true, apart := false }
def TernTellsSaid : Prop := ternTellsRow.holds Try.pinned (OpenSpec.ofChange ternTellsSpec)

/-- ITS FALSE NEIGHBOUR: 'it returns false'. Refute it at one input. -/
def ternTellsWrong : ChangeSpec := { name := "ternTells", fn := fun _ => fun
  | [d] => { results := [.lit (.bool false)], args := [d] }
  | _ => none }
def TernTellsWrongFalsely : Prop := ternTellsRow.holds Try.pinned (OpenSpec.ofChange ternTellsWrong)

/-- 'linchpinlaw.TernLeq': WHATEVER THE INPUT: true; the input reads as it did. -/
def ternLeqSpec : ChangeSpec := { name := "ternLeq", fn := fun _ => fun
  | [d1, d2, d3] => { results := [.lit (.bool true)], args := [d1, d2, d3] }
  | _ => none }
def ternLeqRow : OpenClaim := { program := "ytnlkidmlpipdmaa", sum := "0e0d5f9769b8de3146d789a3f3d891b3d1ddde2b570d36d815eba8c0135f663d", func := "linchpin/linchpinlaw.TernLeq", spec := "ternLeq", unfollowed := true, recurses := true, apart := false }
def TernLeqSaid : Prop := ternLeqRow.holds Try.pinned (OpenSpec.ofChange ternLeqSpec)

/-- ITS FALSE NEIGHBOUR: 'it returns false'. Refute it at one input. -/
def ternLeqWrong : ChangeSpec := { name := "ternLeq", fn := fun _ => fun
  | [d1, d2, d3] => { results := [.lit (.bool false)], args := [d1, d2, d3] }
  | _ => none }
def TernLeqWrongFalsely : Prop := ternLeqRow.holds Try.pinned (OpenSpec.ofChange ternLeqWrong)

/-- 'linchpinlaw.TernTrue': WHATEVER THE INPUT: true; the input reads as it did. -/
def ternTrueSpec : ChangeSpec := { name := "ternTrue", fn := fun _ => fun
  | [d1, d2] => { results := [.lit (.bool true)], args := [d1, d2] }
  | _ => none }
def ternTrueRow : OpenClaim := { program := "ytnlkidmlpipdmaa", sum := "0e0d5f9769b8de3146d789a3f3d891b3d1ddde2b570d36d815eba8c0135f663d", func := "linchpin/linchpinlaw.TernTrue", spec := "ternTrue", unfollowed := true, recurses := true, apart := false }
def TernTrueSaid : Prop := ternTrueRow.holds Try.pinned (OpenSpec.ofChange ternTrueSpec)

/-- ITS FALSE NEIGHBOUR: 'it returns false'. Refute it at one input. -/
def ternTrueWrong : ChangeSpec := { name := "ternTrue", fn := fun _ => fun
  | [d1, d2] => { results := [.lit (.bool false)], args := [d1, d2] }
  | _ => none }
def TernTrueWrongFalsely : Prop := ternTrueRow.holds Try.pinned (OpenSpec.ofChange ternTrueWrong)

/- THE SECOND FORM. 'bulk': how many values and letters a reading holds, each counted each time it is reached (what is shared counts as often as it is met; a slice's spare places count too). A statement '..UptoSaid' is the law's where the arguments, and the package variables that the reading takes, are together of bulk at most 1048576: NARROWER than '..Said'. Prove '..Said' where nothing that the law and all that it calls make is longer than what came in: it says more and counts as full. Else prove '..UptoSaid'. A law counts once. -/
mutual
def uptoBulk {H : Type} : DataW H → Nat
  | .lit (.string bytes) => bytes.length + 1
  | .lit _ => 1
  | .nil => 1
  | .ptr d => uptoBulk d + 1
  | .slice elems spare => uptoBulkAll elems + uptoBulkAll spare + 1
  | .agg parts => uptoBulkAll parts + 1
  | .iface _ d => uptoBulk d + 1
  | .map entries => uptoBulkEntries entries + 1
  | .held _ => 1
def uptoBulkAll {H : Type} : List (DataW H) → Nat
  | [] => 0
  | d :: r => uptoBulk d + uptoBulkAll r
def uptoBulkEntries {H : Type} : List (Lit × DataW H) → Nat
  | [] => 0
  | x :: r => uptoBulkEntry x + uptoBulkEntries r
def uptoBulkEntry {H : Type} : Lit × DataW H → Nat
  | (.string bytes, d) => bytes.length + uptoBulk d + 1
  | (_, d) => uptoBulk d + 1
 end
def uptoSmall : (H : Type) → List (DataW H) → Bool := fun _ ds => decide (uptoBulkAll ds ≤ 1048576)
def OpenSpec.upto (s : _root_.Go.ChangeSpec) : _root_.Go.OpenSpec := { _root_.Go.OpenSpec.ofChange s with cond := some uptoSmall }

/-- 'linchpinlaw.TernTells', WHERE WHAT IT READS IS OF BULK AT MOST 1048576: true; the input reads as it did. -/
def ternTellsUptoRow : OpenClaim := { program := "ytnlkidmlpipdmaa", sum := "0e0d5f9769b8de3146d789a3f3d891b3d1ddde2b570d36d815eba8c0135f663d", func := "linchpin/linchpinlaw.TernTells", spec := "ternTells", unfollowed := true, recurses := true, apart := false, narrowed := true }
def TernTellsUptoSaid : Prop := ternTellsUptoRow.holds Try.pinned (OpenSpec.upto ternTellsSpec)

/-- 'linchpinlaw.TernLeq', WHERE WHAT IT READS IS OF BULK AT MOST 1048576: true; the input reads as it did. -/
def ternLeqUptoRow : OpenClaim := { program := "ytnlkidmlpipdmaa", sum := "0e0d5f9769b8de3146d789a3f3d891b3d1ddde2b570d36d815eba8c0135f663d", func := "linchpin/linchpinlaw.TernLeq", spec := "ternLeq", unfollowed := true, recurses := true, apart := false, narrowed := true }
def TernLeqUptoSaid : Prop := ternLeqUptoRow.holds Try.pinned (OpenSpec.upto ternLeqSpec)

/-- 'linchpinlaw.TernTrue', WHERE WHAT IT READS IS OF BULK AT MOST 1048576: true; the input reads as it did. -/
def ternTrueUptoRow : OpenClaim := { program := "ytnlkidmlpipdmaa", sum := "0e0d5f9769b8de3146d789a3f3d891b3d1ddde2b570d36d815eba8c0135f663d", func := "linchpin/linchpinlaw.TernTrue", spec := "ternTrue", unfollowed := true, recurses := true, apart := false, narrowed := true }
def TernTrueUptoSaid : Prop := ternTrueUptoRow.holds Try.pinned (OpenSpec.upto ternTrueSpec)

end Rows
end Go.Proofs.Ytnlkidmlpipdmaa
