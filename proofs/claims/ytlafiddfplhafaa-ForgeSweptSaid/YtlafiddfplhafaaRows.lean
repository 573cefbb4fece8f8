/-
  No cell of these rows narrows 'for every input' (looked for: loops, veiled, ifaces, maps, wideKeys, modest, calm, conditions, laid).
  DERIVED. THE GIVEN ROWS OF THIS SEAT. 4 by the template 'for every input the law returns true; each argument reads behind the call as it read before'; 0 by the template 'total and deterministic' (their statements: YtlafiddfplhafaaTotals.lean).
  GIVEN WITH THE SEED: the statements are not yours to turn. If you find one false, say at which input.
  Laid BY PROGRAM, IN A SANDBOX (cutbox-rows.mjs): the forced cells as the released guide's own fill.sh prints them over the translation d291c1f82f3e5a32… (all of the seat's roots in one cut). By AI agents, Wed Nov 11 2026. No macro, syntax, notation, axiom, sorry.
-/
import Derived.Test.YtlafiddfplhafaaChecked
import GoSem.Claim
import GoSem.ClaimJoined
import GoSem.ClaimMapViews
import Derived.JoinedTies
import Derived.KernelRfl
namespace Go.Proofs.Ytlafiddfplhafaa
/- THE CELL 'sum', in the pinned program and in every row, IS THE sha256 OF THE DUMP (.gsa) THAT YtlafiddfplhafaaProg.lean LOADS. Nothing in Lean hashes anything: it is a label: what it is worth is what the hold of that sum in a sandbox is worth. -/
noncomputable def Try.pinned : Pinned := { name := "ytlafiddfplhafaa", sum := "d291c1f82f3e5a320d417f4677f668ec7535536537a4435a8b79a17df2def695", checked := Try.checked }
namespace Rows
def none {H : Type} : Left H := { results := [], args := [] }

/-- 'linchpinlaw.ForgeRuns': WHATEVER THE INPUT: true; the input reads as it did. -/
def forgeRunsSpec : ChangeSpec := { name := "forgeRuns", fn := fun _ => fun
  | [d1, d2] => { results := [.lit (.bool true)], args := [d1, d2] }
  | _ => none }
def forgeRunsRow : OpenClaim := { program := "ytlafiddfplhafaa", sum := "d291c1f82f3e5a320d417f4677f668ec7535536537a4435a8b79a17df2def695", func := "linchpin/linchpinlaw.ForgeRuns", spec := "forgeRuns", unfollowed := true, recurses := true, apart := false }
def ForgeRunsSaid : Prop := forgeRunsRow.holds Try.pinned (OpenSpec.ofChange forgeRunsSpec)

/-- ITS FALSE NEIGHBOUR: 'it returns false'. Refute it at one input. -/
def forgeRunsWrong : ChangeSpec := { name := "forgeRuns", fn := fun _ => fun
  | [d1, d2] => { results := [.lit (.bool false)], args := [d1, d2] }
  | _ => none }
def ForgeRunsWrongFalsely : Prop := forgeRunsRow.holds Try.pinned (OpenSpec.ofChange forgeRunsWrong)

/-- 'linchpinlaw.ForgeSame': WHATEVER THE INPUT: true; the input reads as it did. -/
def forgeSameSpec : ChangeSpec := { name := "forgeSame", fn := fun _ => fun
  | [d1, d2] => { results := [.lit (.bool true)], args := [d1, d2] }
  | _ => none }
def forgeSameRow : OpenClaim := { program := "ytlafiddfplhafaa", sum := "d291c1f82f3e5a320d417f4677f668ec7535536537a4435a8b79a17df2def695", func := "linchpin/linchpinlaw.ForgeSame", spec := "forgeSame", unfollowed := true, recurses := true, apart := false }
def ForgeSameSaid : Prop := forgeSameRow.holds Try.pinned (OpenSpec.ofChange forgeSameSpec)

/-- ITS FALSE NEIGHBOUR: 'it returns false'. Refute it at one input. -/
def forgeSameWrong : ChangeSpec := { name := "forgeSame", fn := fun _ => fun
  | [d1, d2] => { results := [.lit (.bool false)], args := [d1, d2] }
  | _ => none }
def ForgeSameWrongFalsely : Prop := forgeSameRow.holds Try.pinned (OpenSpec.ofChange forgeSameWrong)

/-- 'linchpinlaw.ForgeGood': WHATEVER THE INPUT: true; the input reads as it did. -/
def forgeGoodSpec : ChangeSpec := { name := "forgeGood", fn := fun _ => fun
  | [d1, d2] => { results := [.lit (.bool true)], args := [d1, d2] }
  | _ => none }
def forgeGoodRow : OpenClaim := { program := "ytlafiddfplhafaa", sum := "d291c1f82f3e5a320d417f4677f668ec7535536537a4435a8b79a17df2def695", func := "linchpin/linchpinlaw.ForgeGood", spec := "forgeGood", unfollowed := true, recurses := true, apart := false }
def ForgeGoodSaid : Prop := forgeGoodRow.holds Try.pinned (OpenSpec.ofChange forgeGoodSpec)

/-- ITS FALSE NEIGHBOUR: 'it returns false'. Refute it at one input. -/
def forgeGoodWrong : ChangeSpec := { name := "forgeGood", fn := fun _ => fun
  | [d1, d2] => { results := [.lit (.bool false)], args := [d1, d2] }
  | _ => none }
def ForgeGoodWrongFalsely : Prop := forgeGoodRow.holds Try.pinned (OpenSpec.ofChange forgeGoodWrong)

/-- 'linchpinlaw.ForgeSwept': WHATEVER THE INPUT: true; the input reads as it did. -/
def forgeSweptSpec : ChangeSpec := { name := "forgeSwept", fn := fun _ => fun
  | [d1, d2, d3] => { results := [.lit (.bool true)], args := [d1, d2, d3] }
  | _ => none }
def forgeSweptRow : OpenClaim := { program := "ytlafiddfplhafaa", sum := "d291c1f82f3e5a320d417f4677f668ec7535536537a4435a8b79a17df2def695", func := "linchpin/linchpinlaw.ForgeSwept", spec := "forgeSwept", unfollowed := true, recurses := true, apart := false }
def ForgeSweptSaid : Prop := forgeSweptRow.holds Try.pinned (OpenSpec.ofChange forgeSweptSpec)

/-- ITS FALSE NEIGHBOUR: 'it returns false'. Refute it at one input. -/
def forgeSweptWrong : ChangeSpec := { name := "forgeSwept", fn := fun _ => fun
  | [d1, d2, d3] => { results := [.lit (.bool false)], args := [d1, d2, d3] }
  | _ => none }
def ForgeSweptWrongFalsely : Prop := forgeSweptRow.holds Try.pinned (OpenSpec.ofChange forgeSweptWrong)

/- THE SECOND FORM. 'bulk': how many values and letters a reading holds, each counted each time it is reached (what is shared counts as often as it is met; a slice's spare places count too). A statement '..UptoSaid' is the law's where the arguments, and the package variables that the reading takes, are together of bulk at most 1048576: NARROWER than '..Said'. Prove '..Said' where nothing that the law and all that it calls make is longer than what came in: it says more and counts as full. Else prove '..UptoSaid'. A law counts once. -/
mutual
def uptoBulk {H : Type} : DataW H → Nat
  | .lit (.string bytes) => bytes.length + 1
  | .lit _ => 1
  | .nil => 1
  | .ptr d => uptoBulk d + 1
  | .slice elems spare => uptoBulkAll elems + uptoBulkAll spare + 1
  | .agg parts => uptoBulkAll parts + 1
  | .iface _ d => uptoBulk d + 1
  | .map entries => uptoBulkEntries entries + 1
  | .held _ => 1
def uptoBulkAll {H : Type} : List (DataW H) → Nat
  | [] => 0
  | d :: r => uptoBulk d + uptoBulkAll r
def uptoBulkEntries {H : Type} : List (Lit × DataW H) → Nat
  | [] => 0
  | x :: r => uptoBulkEntry x + uptoBulkEntries r
def uptoBulkEntry {H : Type} : Lit × DataW H → Nat
  | (.string bytes, d) => bytes.length + uptoBulk d + 1
  | (_, d) => uptoBulk d + 1
 end
def uptoSmall : (H : Type) → List (DataW H) → Bool := fun _ ds => decide (uptoBulkAll ds ≤ 1048576)
def OpenSpec.upto (s : _root_.Go.ChangeSpec) : _root_.Go.OpenSpec := { _root_.Go.OpenSpec.ofChange s with cond := some uptoSmall }

/-- 'linchpinlaw.ForgeRuns', WHERE WHAT IT READS IS OF BULK AT MOST 1048576: true; the input reads as it did. -/
def forgeRunsUptoRow : OpenClaim := { program := "ytlafiddfplhafaa", sum := "d291c1f82f3e5a320d417f4677f668ec7535536537a4435a8b79a17df2def695", func := "linchpin/linchpinlaw.ForgeRuns", spec := "forgeRuns", unfollowed := true, recurses := true, apart := false, narrowed := true }
def ForgeRunsUptoSaid : Prop := forgeRunsUptoRow.holds Try.pinned (OpenSpec.upto forgeRunsSpec)

/-- 'linchpinlaw.ForgeSame', WHERE WHAT IT READS IS OF BULK AT MOST 1048576: true; the input reads as it did. -/
def forgeSameUptoRow : OpenClaim := { program := "ytlafiddfplhafaa", sum := "d291c1f82f3e5a320d417f4677f668ec7535536537a4435a8b79a17df2def695", func := "linchpin/linchpinlaw.ForgeSame", spec := "forgeSame", unfollowed := true, recurses := true, apart := false, narrowed := true }
def ForgeSameUptoSaid : Prop := forgeSameUptoRow.holds Try.pinned (OpenSpec.upto forgeSameSpec)

/-- 'linchpinlaw.ForgeGood', WHERE WHAT IT READS IS OF BULK AT MOST 1048576: true; the input reads as it did. -/
def forgeGoodUptoRow : OpenClaim := { program := "ytlafiddfplhafaa", sum := "d291c1f82f3e5a320d417f4677f668ec7535536537a4435a8b79a17df2def695", func := "linchpin/linchpinlaw.ForgeGood", spec := "forgeGood", unfollowed := true, recurses := true, apart := false, narrowed := true }
def ForgeGoodUptoSaid : Prop := forgeGoodUptoRow.holds Try.pinned (OpenSpec.upto forgeGoodSpec)

/-- 'linchpinlaw.ForgeSwept', WHERE WHAT IT READS IS OF BULK AT MOST 1048576: true; the input reads as it did. -/
def forgeSweptUptoRow : OpenClaim := { program := "ytlafiddfplhafaa", sum := "d291c1f82f3e5a320d417f4677f668ec7535536537a4435a8b79a17df2def695", func := "linchpin/linchpinlaw.ForgeSwept", spec := "forgeSwept", unfollowed := true, recurses := true, apart := false, narrowed := true }
def ForgeSweptUptoSaid : Prop := forgeSweptUptoRow.holds Try.pinned (OpenSpec.upto forgeSweptSpec)

end Rows
end Go.Proofs.Ytlafiddfplhafaa
