/-
  No cell of these rows narrows 'for every input' (looked for: loops, veiled, ifaces, maps, wideKeys, modest, calm, conditions, laid).
  DERIVED. THE GIVEN ROWS OF THIS SEAT. 23 by the template 'for every input the law returns true; each argument reads behind the call as it read before'; 0 by the template 'total and deterministic' (their statements: YtjagbnaacfhokaaTotals.lean).
  GIVEN WITH THE SEED: the statements are not yours to turn. If you find one false, say at which input.
  Laid BY PROGRAM, IN A SANDBOX (cutbox-rows.mjs): the forced cells as the released guide's own fill.sh prints them over the translation ba923f4ba1fc89f6… (all of the seat's roots in one cut). By AI agents, Wed Nov 11 2026. No macro, syntax, notation, axiom, sorry.
-/
import Derived.Test.YtjagbnaacfhokaaChecked
import GoSem.Claim
import GoSem.ClaimJoined
import GoSem.ClaimMapViews
import Derived.JoinedTies
import Derived.KernelRfl
namespace Go.Proofs.Ytjagbnaacfhokaa
/- THE CELL 'sum', in the pinned program and in every row, IS THE sha256 OF THE DUMP (.gsa) THAT YtjagbnaacfhokaaProg.lean LOADS. Nothing in Lean hashes anything: it is a label: what it is worth is what the hold of that sum in a sandbox is worth. -/
noncomputable def Try.pinned : Pinned := { name := "ytjagbnaacfhokaa", sum := "ba923f4ba1fc89f6a132dbd3e4d8b7d4d4122970c92d045eb63eaa7897aa0a6d", checked := Try.checked }
namespace Rows
def none {H : Type} : Left H := { results := [], args := [] }

/-- 'linchpinlaw.NetTrue': WHATEVER THE INPUT: true; the input reads as it did. -/
def netTrueSpec : ChangeSpec := { name := "netTrue", fn := fun _ => fun
  | [d1, d2, d3, d4] => { results := [.lit (.bool true)], args := [d1, d2, d3, d4] }
  | _ => none }
def netTrueRow : OpenClaim := { program := "ytjagbnaacfhokaa", sum := "ba923f4ba1fc89f6a132dbd3e4d8b7d4d4122970c92d045eb63eaa7897aa0a6d", func := "linchpin/linchpinlaw.NetTrue", spec := "netTrue", unfollowed := true, recurses := true, apart := false }
def NetTrueSaid : Prop := netTrueRow.holds Try.pinned (OpenSpec.ofChange netTrueSpec)

/-- ITS FALSE NEIGHBOUR: 'it returns false'. Refute it at one input. -/
def netTrueWrong : ChangeSpec := { name := "netTrue", fn := fun _ => fun
  | [d1, d2, d3, d4] => { results := [.lit (.bool false)], args := [d1, d2, d3, d4] }
  | _ => none }
def NetTrueWrongFalsely : Prop := netTrueRow.holds Try.pinned (OpenSpec.ofChange netTrueWrong)

/-- 'linchpinlaw.EvalSteps': WHATEVER THE INPUT: true; the input reads as it did. -/
def evalStepsSpec : ChangeSpec := { name := "evalSteps", fn := fun _ => fun
  | [d1, d2, d3] => { results := [.lit (.bool true)], args := [d1, d2, d3] }
  | _ => none }
def evalStepsRow : OpenClaim := { program := "ytjagbnaacfhokaa", sum := "ba923f4ba1fc89f6a132dbd3e4d8b7d4d4122970c92d045eb63eaa7897aa0a6d", func := "linchpin/linchpinlaw.EvalSteps", spec := "evalSteps", unfollowed := true, recurses := true, apart := false }
def EvalStepsSaid : Prop := evalStepsRow.holds Try.pinned (OpenSpec.ofChange evalStepsSpec)

/-- ITS FALSE NEIGHBOUR: 'it returns false'. Refute it at one input. -/
def evalStepsWrong : ChangeSpec := { name := "evalSteps", fn := fun _ => fun
  | [d1, d2, d3] => { results := [.lit (.bool false)], args := [d1, d2, d3] }
  | _ => none }
def EvalStepsWrongFalsely : Prop := evalStepsRow.holds Try.pinned (OpenSpec.ofChange evalStepsWrong)

/-- 'linchpinlaw.EvalSolves': WHATEVER THE INPUT: true; the input reads as it did. -/
def evalSolvesSpec : ChangeSpec := { name := "evalSolves", fn := fun _ => fun
  | [d1, d2, d3, d4] => { results := [.lit (.bool true)], args := [d1, d2, d3, d4] }
  | _ => none }
def evalSolvesRow : OpenClaim := { program := "ytjagbnaacfhokaa", sum := "ba923f4ba1fc89f6a132dbd3e4d8b7d4d4122970c92d045eb63eaa7897aa0a6d", func := "linchpin/linchpinlaw.EvalSolves", spec := "evalSolves", unfollowed := true, recurses := true, apart := false }
def EvalSolvesSaid : Prop := evalSolvesRow.holds Try.pinned (OpenSpec.ofChange evalSolvesSpec)

/-- ITS FALSE NEIGHBOUR: 'it returns false'. Refute it at one input. -/
def evalSolvesWrong : ChangeSpec := { name := "evalSolves", fn := fun _ => fun
  | [d1, d2, d3, d4] => { results := [.lit (.bool false)], args := [d1, d2, d3, d4] }
  | _ => none }
def EvalSolvesWrongFalsely : Prop := evalSolvesRow.holds Try.pinned (OpenSpec.ofChange evalSolvesWrong)

/-- 'linchpinlaw.LevelOrders': WHATEVER THE INPUT: true; the input reads as it did. -/
def levelOrdersSpec : ChangeSpec := { name := "levelOrders", fn := fun _ => fun
  | [d] => { results := [.lit (.bool true)], args := [d] }
  | _ => none }
def levelOrdersRow : OpenClaim := { program := "ytjagbnaacfhokaa", sum := "ba923f4ba1fc89f6a132dbd3e4d8b7d4d4122970c92d045eb63eaa7897aa0a6d", func := "linchpin/linchpinlaw.LevelOrders", spec := "levelOrders", unfollowed := true, recurses := true, apart := false }
def LevelOrdersSaid : Prop := levelOrdersRow.holds Try.pinned (OpenSpec.ofChange levelOrdersSpec)

/-- ITS FALSE NEIGHBOUR: 'it returns false'. Refute it at one input. -/
def levelOrdersWrong : ChangeSpec := { name := "levelOrders", fn := fun _ => fun
  | [d] => { results := [.lit (.bool false)], args := [d] }
  | _ => none }
def LevelOrdersWrongFalsely : Prop := levelOrdersRow.holds Try.pinned (OpenSpec.ofChange levelOrdersWrong)

/-- 'linchpinlaw.LevelTrue': WHATEVER THE INPUT: true; the input reads as it did. -/
def levelTrueSpec : ChangeSpec := { name := "levelTrue", fn := fun _ => fun
  | [d1, d2, d3] => { results := [.lit (.bool true)], args := [d1, d2, d3] }
  | _ => none }
def levelTrueRow : OpenClaim := { program := "ytjagbnaacfhokaa", sum := "ba923f4ba1fc89f6a132dbd3e4d8b7d4d4122970c92d045eb63eaa7897aa0a6d", func := "linchpin/linchpinlaw.LevelTrue", spec := "levelTrue", unfollowed := true, recurses := true, apart := false }
def LevelTrueSaid : Prop := levelTrueRow.holds Try.pinned (OpenSpec.ofChange levelTrueSpec)

/-- ITS FALSE NEIGHBOUR: 'it returns false'. Refute it at one input. -/
def levelTrueWrong : ChangeSpec := { name := "levelTrue", fn := fun _ => fun
  | [d1, d2, d3] => { results := [.lit (.bool false)], args := [d1, d2, d3] }
  | _ => none }
def LevelTrueWrongFalsely : Prop := levelTrueRow.holds Try.pinned (OpenSpec.ofChange levelTrueWrong)

/-- 'linchpinlaw.EvalTrue': WHATEVER THE INPUT: true; the input reads as it did. -/
def evalTrueSpec : ChangeSpec := { name := "evalTrue", fn := fun _ => fun
  | [d1, d2, d3, d4] => { results := [.lit (.bool true)], args := [d1, d2, d3, d4] }
  | _ => none }
def evalTrueRow : OpenClaim := { program := "ytjagbnaacfhokaa", sum := "ba923f4ba1fc89f6a132dbd3e4d8b7d4d4122970c92d045eb63eaa7897aa0a6d", func := "linchpin/linchpinlaw.EvalTrue", spec := "evalTrue", unfollowed := true, recurses := true, apart := false }
def EvalTrueSaid : Prop := evalTrueRow.holds Try.pinned (OpenSpec.ofChange evalTrueSpec)

/-- ITS FALSE NEIGHBOUR: 'it returns false'. Refute it at one input. -/
def evalTrueWrong : ChangeSpec := { name := "evalTrue", fn := fun _ => fun
  | [d1, d2, d3, d4] => { results := [.lit (.bool false)], args := [d1, d2, d3, d4] }
  | _ => none }
def EvalTrueWrongFalsely : Prop := evalTrueRow.holds Try.pinned (OpenSpec.ofChange evalTrueWrong)

/-- 'linchpinlaw.EvalMore': WHATEVER THE INPUT: true; the input reads as it did. -/
def evalMoreSpec : ChangeSpec := { name := "evalMore", fn := fun _ => fun
  | [d1, d2, d3, d4, d5] => { results := [.lit (.bool true)], args := [d1, d2, d3, d4, d5] }
  | _ => none }
def evalMoreRow : OpenClaim := { program := "ytjagbnaacfhokaa", sum := "ba923f4ba1fc89f6a132dbd3e4d8b7d4d4122970c92d045eb63eaa7897aa0a6d", func := "linchpin/linchpinlaw.EvalMore", spec := "evalMore", unfollowed := true, recurses := true, apart := false }
def EvalMoreSaid : Prop := evalMoreRow.holds Try.pinned (OpenSpec.ofChange evalMoreSpec)

/-- ITS FALSE NEIGHBOUR: 'it returns false'. Refute it at one input. -/
def evalMoreWrong : ChangeSpec := { name := "evalMore", fn := fun _ => fun
  | [d1, d2, d3, d4, d5] => { results := [.lit (.bool false)], args := [d1, d2, d3, d4, d5] }
  | _ => none }
def EvalMoreWrongFalsely : Prop := evalMoreRow.holds Try.pinned (OpenSpec.ofChange evalMoreWrong)

/-- 'linchpinlaw.PackSteps': WHATEVER THE INPUT: true; the input reads as it did. -/
def packStepsSpec : ChangeSpec := { name := "packSteps", fn := fun _ => fun
  | [d1, d2, d3] => { results := [.lit (.bool true)], args := [d1, d2, d3] }
  | _ => none }
def packStepsRow : OpenClaim := { program := "ytjagbnaacfhokaa", sum := "ba923f4ba1fc89f6a132dbd3e4d8b7d4d4122970c92d045eb63eaa7897aa0a6d", func := "linchpin/linchpinlaw.PackSteps", spec := "packSteps", unfollowed := true, recurses := true, apart := false }
def PackStepsSaid : Prop := packStepsRow.holds Try.pinned (OpenSpec.ofChange packStepsSpec)

/-- ITS FALSE NEIGHBOUR: 'it returns false'. Refute it at one input. -/
def packStepsWrong : ChangeSpec := { name := "packSteps", fn := fun _ => fun
  | [d1, d2, d3] => { results := [.lit (.bool false)], args := [d1, d2, d3] }
  | _ => none }
def PackStepsWrongFalsely : Prop := packStepsRow.holds Try.pinned (OpenSpec.ofChange packStepsWrong)

/-- 'linchpinlaw.PackRuns': WHATEVER THE INPUT: true; the input reads as it did. -/
def packRunsSpec : ChangeSpec := { name := "packRuns", fn := fun _ => fun
  | [d1, d2] => { results := [.lit (.bool true)], args := [d1, d2] }
  | _ => none }
def packRunsRow : OpenClaim := { program := "ytjagbnaacfhokaa", sum := "ba923f4ba1fc89f6a132dbd3e4d8b7d4d4122970c92d045eb63eaa7897aa0a6d", func := "linchpin/linchpinlaw.PackRuns", spec := "packRuns", unfollowed := true, recurses := true, apart := false }
def PackRunsSaid : Prop := packRunsRow.holds Try.pinned (OpenSpec.ofChange packRunsSpec)

/-- ITS FALSE NEIGHBOUR: 'it returns false'. Refute it at one input. -/
def packRunsWrong : ChangeSpec := { name := "packRuns", fn := fun _ => fun
  | [d1, d2] => { results := [.lit (.bool false)], args := [d1, d2] }
  | _ => none }
def PackRunsWrongFalsely : Prop := packRunsRow.holds Try.pinned (OpenSpec.ofChange packRunsWrong)

/-- 'linchpinlaw.LevelSteps': WHATEVER THE INPUT: true; the input reads as it did. -/
def levelStepsSpec : ChangeSpec := { name := "levelSteps", fn := fun _ => fun
  | [d1, d2, d3] => { results := [.lit (.bool true)], args := [d1, d2, d3] }
  | _ => none }
def levelStepsRow : OpenClaim := { program := "ytjagbnaacfhokaa", sum := "ba923f4ba1fc89f6a132dbd3e4d8b7d4d4122970c92d045eb63eaa7897aa0a6d", func := "linchpin/linchpinlaw.LevelSteps", spec := "levelSteps", unfollowed := true, recurses := true, apart := false }
def LevelStepsSaid : Prop := levelStepsRow.holds Try.pinned (OpenSpec.ofChange levelStepsSpec)

/-- ITS FALSE NEIGHBOUR: 'it returns false'. Refute it at one input. -/
def levelStepsWrong : ChangeSpec := { name := "levelSteps", fn := fun _ => fun
  | [d1, d2, d3] => { results := [.lit (.bool false)], args := [d1, d2, d3] }
  | _ => none }
def LevelStepsWrongFalsely : Prop := levelStepsRow.holds Try.pinned (OpenSpec.ofChange levelStepsWrong)

/-- 'linchpinlaw.ReachStates': WHATEVER THE INPUT: true; the input reads as it did. -/
def reachStatesSpec : ChangeSpec := { name := "reachStates", fn := fun _ => fun
  | [d] => { results := [.lit (.bool true)], args := [d] }
  | _ => none }
def reachStatesRow : OpenClaim := { program := "ytjagbnaacfhokaa", sum := "ba923f4ba1fc89f6a132dbd3e4d8b7d4d4122970c92d045eb63eaa7897aa0a6d", func := "linchpin/linchpinlaw.ReachStates", spec := "reachStates", unfollowed := true, recurses := true, apart := false }
def ReachStatesSaid : Prop := reachStatesRow.holds Try.pinned (OpenSpec.ofChange reachStatesSpec)

/-- ITS FALSE NEIGHBOUR: 'it returns false'. Refute it at one input. -/
def reachStatesWrong : ChangeSpec := { name := "reachStates", fn := fun _ => fun
  | [d] => { results := [.lit (.bool false)], args := [d] }
  | _ => none }
def ReachStatesWrongFalsely : Prop := reachStatesRow.holds Try.pinned (OpenSpec.ofChange reachStatesWrong)

/-- 'linchpinlaw.ReachBad': WHATEVER THE INPUT: true; the input reads as it did. -/
def reachBadSpec : ChangeSpec := { name := "reachBad", fn := fun _ => fun
  | [d] => { results := [.lit (.bool true)], args := [d] }
  | _ => none }
def reachBadRow : OpenClaim := { program := "ytjagbnaacfhokaa", sum := "ba923f4ba1fc89f6a132dbd3e4d8b7d4d4122970c92d045eb63eaa7897aa0a6d", func := "linchpin/linchpinlaw.ReachBad", spec := "reachBad", unfollowed := true, recurses := true, apart := false }
def ReachBadSaid : Prop := reachBadRow.holds Try.pinned (OpenSpec.ofChange reachBadSpec)

/-- ITS FALSE NEIGHBOUR: 'it returns false'. Refute it at one input. -/
def reachBadWrong : ChangeSpec := { name := "reachBad", fn := fun _ => fun
  | [d] => { results := [.lit (.bool false)], args := [d] }
  | _ => none }
def ReachBadWrongFalsely : Prop := reachBadRow.holds Try.pinned (OpenSpec.ofChange reachBadWrong)

/-- 'linchpinlaw.TickDoes': WHATEVER THE INPUT: true; the input reads as it did. -/
def tickDoesSpec : ChangeSpec := { name := "tickDoes", fn := fun _ => fun
  | [d1, d2, d3] => { results := [.lit (.bool true)], args := [d1, d2, d3] }
  | _ => none }
def tickDoesRow : OpenClaim := { program := "ytjagbnaacfhokaa", sum := "ba923f4ba1fc89f6a132dbd3e4d8b7d4d4122970c92d045eb63eaa7897aa0a6d", func := "linchpin/linchpinlaw.TickDoes", spec := "tickDoes", unfollowed := true, recurses := true, apart := false }
def TickDoesSaid : Prop := tickDoesRow.holds Try.pinned (OpenSpec.ofChange tickDoesSpec)

/-- ITS FALSE NEIGHBOUR: 'it returns false'. Refute it at one input. -/
def tickDoesWrong : ChangeSpec := { name := "tickDoes", fn := fun _ => fun
  | [d1, d2, d3] => { results := [.lit (.bool false)], args := [d1, d2, d3] }
  | _ => none }
def TickDoesWrongFalsely : Prop := tickDoesRow.holds Try.pinned (OpenSpec.ofChange tickDoesWrong)

/-- 'linchpinlaw.TickRuns': WHATEVER THE INPUT: true; the input reads as it did. -/
def tickRunsSpec : ChangeSpec := { name := "tickRuns", fn := fun _ => fun
  | [d1, d2] => { results := [.lit (.bool true)], args := [d1, d2] }
  | _ => none }
def tickRunsRow : OpenClaim := { program := "ytjagbnaacfhokaa", sum := "ba923f4ba1fc89f6a132dbd3e4d8b7d4d4122970c92d045eb63eaa7897aa0a6d", func := "linchpin/linchpinlaw.TickRuns", spec := "tickRuns", unfollowed := true, recurses := true, apart := false }
def TickRunsSaid : Prop := tickRunsRow.holds Try.pinned (OpenSpec.ofChange tickRunsSpec)

/-- ITS FALSE NEIGHBOUR: 'it returns false'. Refute it at one input. -/
def tickRunsWrong : ChangeSpec := { name := "tickRuns", fn := fun _ => fun
  | [d1, d2] => { results := [.lit (.bool false)], args := [d1, d2] }
  | _ => none }
def TickRunsWrongFalsely : Prop := tickRunsRow.holds Try.pinned (OpenSpec.ofChange tickRunsWrong)

/-- 'linchpinlaw.TickSplit': WHATEVER THE INPUT: true; the input reads as it did. -/
def tickSplitSpec : ChangeSpec := { name := "tickSplit", fn := fun _ => fun
  | [d1, d2, d3] => { results := [.lit (.bool true)], args := [d1, d2, d3] }
  | _ => none }
def tickSplitRow : OpenClaim := { program := "ytjagbnaacfhokaa", sum := "ba923f4ba1fc89f6a132dbd3e4d8b7d4d4122970c92d045eb63eaa7897aa0a6d", func := "linchpin/linchpinlaw.TickSplit", spec := "tickSplit", unfollowed := true, recurses := true, apart := false }
def TickSplitSaid : Prop := tickSplitRow.holds Try.pinned (OpenSpec.ofChange tickSplitSpec)

/-- ITS FALSE NEIGHBOUR: 'it returns false'. Refute it at one input. -/
def tickSplitWrong : ChangeSpec := { name := "tickSplit", fn := fun _ => fun
  | [d1, d2, d3] => { results := [.lit (.bool false)], args := [d1, d2, d3] }
  | _ => none }
def TickSplitWrongFalsely : Prop := tickSplitRow.holds Try.pinned (OpenSpec.ofChange tickSplitWrong)

/-- 'linchpinlaw.ReachTrue': WHATEVER THE INPUT: true; the input reads as it did. -/
def reachTrueSpec : ChangeSpec := { name := "reachTrue", fn := fun _ => fun
  | [d1, d2, d3, d4] => { results := [.lit (.bool true)], args := [d1, d2, d3, d4] }
  | _ => none }
def reachTrueRow : OpenClaim := { program := "ytjagbnaacfhokaa", sum := "ba923f4ba1fc89f6a132dbd3e4d8b7d4d4122970c92d045eb63eaa7897aa0a6d", func := "linchpin/linchpinlaw.ReachTrue", spec := "reachTrue", unfollowed := true, recurses := true, apart := false }
def ReachTrueSaid : Prop := reachTrueRow.holds Try.pinned (OpenSpec.ofChange reachTrueSpec)

/-- ITS FALSE NEIGHBOUR: 'it returns false'. Refute it at one input. -/
def reachTrueWrong : ChangeSpec := { name := "reachTrue", fn := fun _ => fun
  | [d1, d2, d3, d4] => { results := [.lit (.bool false)], args := [d1, d2, d3, d4] }
  | _ => none }
def ReachTrueWrongFalsely : Prop := reachTrueRow.holds Try.pinned (OpenSpec.ofChange reachTrueWrong)

/-- 'linchpinlaw.ReachWay': WHATEVER THE INPUT: true; the input reads as it did. -/
def reachWaySpec : ChangeSpec := { name := "reachWay", fn := fun _ => fun
  | [d1, d2] => { results := [.lit (.bool true)], args := [d1, d2] }
  | _ => none }
def reachWayRow : OpenClaim := { program := "ytjagbnaacfhokaa", sum := "ba923f4ba1fc89f6a132dbd3e4d8b7d4d4122970c92d045eb63eaa7897aa0a6d", func := "linchpin/linchpinlaw.ReachWay", spec := "reachWay", unfollowed := true, recurses := true, apart := false }
def ReachWaySaid : Prop := reachWayRow.holds Try.pinned (OpenSpec.ofChange reachWaySpec)

/-- ITS FALSE NEIGHBOUR: 'it returns false'. Refute it at one input. -/
def reachWayWrong : ChangeSpec := { name := "reachWay", fn := fun _ => fun
  | [d1, d2] => { results := [.lit (.bool false)], args := [d1, d2] }
  | _ => none }
def ReachWayWrongFalsely : Prop := reachWayRow.holds Try.pinned (OpenSpec.ofChange reachWayWrong)

/-- 'linchpinlaw.SweepTells': WHATEVER THE INPUT: true; the input reads as it did. -/
def sweepTellsSpec : ChangeSpec := { name := "sweepTells", fn := fun _ => fun
  | [d] => { results := [.lit (.bool true)], args := [d] }
  | _ => none }
def sweepTellsRow : OpenClaim := { program := "ytjagbnaacfhokaa", sum := "ba923f4ba1fc89f6a132dbd3e4d8b7d4d4122970c92d045eb63eaa7897aa0a6d", func := "linchpin/linchpinlaw.SweepTells", spec := "sweepTells", unfollowed := true, recurses := true, apart := false }
def SweepTellsSaid : Prop := sweepTellsRow.holds Try.pinned (OpenSpec.ofChange sweepTellsSpec)

/-- ITS FALSE NEIGHBOUR: 'it returns false'. Refute it at one input. -/
def sweepTellsWrong : ChangeSpec := { name := "sweepTells", fn := fun _ => fun
  | [d] => { results := [.lit (.bool false)], args := [d] }
  | _ => none }
def SweepTellsWrongFalsely : Prop := sweepTellsRow.holds Try.pinned (OpenSpec.ofChange sweepTellsWrong)

/-- 'linchpinlaw.SweepFold': WHATEVER THE INPUT: true; the input reads as it did. -/
def sweepFoldSpec : ChangeSpec := { name := "sweepFold", fn := fun _ => fun
  | [d1, d2, d3] => { results := [.lit (.bool true)], args := [d1, d2, d3] }
  | _ => none }
def sweepFoldRow : OpenClaim := { program := "ytjagbnaacfhokaa", sum := "ba923f4ba1fc89f6a132dbd3e4d8b7d4d4122970c92d045eb63eaa7897aa0a6d", func := "linchpin/linchpinlaw.SweepFold", spec := "sweepFold", unfollowed := true, recurses := true, apart := false }
def SweepFoldSaid : Prop := sweepFoldRow.holds Try.pinned (OpenSpec.ofChange sweepFoldSpec)

/-- ITS FALSE NEIGHBOUR: 'it returns false'. Refute it at one input. -/
def sweepFoldWrong : ChangeSpec := { name := "sweepFold", fn := fun _ => fun
  | [d1, d2, d3] => { results := [.lit (.bool false)], args := [d1, d2, d3] }
  | _ => none }
def SweepFoldWrongFalsely : Prop := sweepFoldRow.holds Try.pinned (OpenSpec.ofChange sweepFoldWrong)

/-- 'linchpinlaw.SweepDrop': WHATEVER THE INPUT: true; the input reads as it did. -/
def sweepDropSpec : ChangeSpec := { name := "sweepDrop", fn := fun _ => fun
  | [d1, d2, d3] => { results := [.lit (.bool true)], args := [d1, d2, d3] }
  | _ => none }
def sweepDropRow : OpenClaim := { program := "ytjagbnaacfhokaa", sum := "ba923f4ba1fc89f6a132dbd3e4d8b7d4d4122970c92d045eb63eaa7897aa0a6d", func := "linchpin/linchpinlaw.SweepDrop", spec := "sweepDrop", unfollowed := true, recurses := true, apart := false }
def SweepDropSaid : Prop := sweepDropRow.holds Try.pinned (OpenSpec.ofChange sweepDropSpec)

/-- ITS FALSE NEIGHBOUR: 'it returns false'. Refute it at one input. -/
def sweepDropWrong : ChangeSpec := { name := "sweepDrop", fn := fun _ => fun
  | [d1, d2, d3] => { results := [.lit (.bool false)], args := [d1, d2, d3] }
  | _ => none }
def SweepDropWrongFalsely : Prop := sweepDropRow.holds Try.pinned (OpenSpec.ofChange sweepDropWrong)

/-- 'linchpinlaw.RestNets': WHATEVER THE INPUT: true; the input reads as it did. -/
def restNetsSpec : ChangeSpec := { name := "restNets", fn := fun _ => fun
  | [d1, d2, d3] => { results := [.lit (.bool true)], args := [d1, d2, d3] }
  | _ => none }
def restNetsRow : OpenClaim := { program := "ytjagbnaacfhokaa", sum := "ba923f4ba1fc89f6a132dbd3e4d8b7d4d4122970c92d045eb63eaa7897aa0a6d", func := "linchpin/linchpinlaw.RestNets", spec := "restNets", unfollowed := true, recurses := true, apart := false }
def RestNetsSaid : Prop := restNetsRow.holds Try.pinned (OpenSpec.ofChange restNetsSpec)

/-- ITS FALSE NEIGHBOUR: 'it returns false'. Refute it at one input. -/
def restNetsWrong : ChangeSpec := { name := "restNets", fn := fun _ => fun
  | [d1, d2, d3] => { results := [.lit (.bool false)], args := [d1, d2, d3] }
  | _ => none }
def RestNetsWrongFalsely : Prop := restNetsRow.holds Try.pinned (OpenSpec.ofChange restNetsWrong)

/-- 'linchpinlaw.PackSame': WHATEVER THE INPUT: true; the input reads as it did. -/
def packSameSpec : ChangeSpec := { name := "packSame", fn := fun _ => fun
  | [d1, d2, d3] => { results := [.lit (.bool true)], args := [d1, d2, d3] }
  | _ => none }
def packSameRow : OpenClaim := { program := "ytjagbnaacfhokaa", sum := "ba923f4ba1fc89f6a132dbd3e4d8b7d4d4122970c92d045eb63eaa7897aa0a6d", func := "linchpin/linchpinlaw.PackSame", spec := "packSame", unfollowed := true, recurses := true, apart := false }
def PackSameSaid : Prop := packSameRow.holds Try.pinned (OpenSpec.ofChange packSameSpec)

/-- ITS FALSE NEIGHBOUR: 'it returns false'. Refute it at one input. -/
def packSameWrong : ChangeSpec := { name := "packSame", fn := fun _ => fun
  | [d1, d2, d3] => { results := [.lit (.bool false)], args := [d1, d2, d3] }
  | _ => none }
def PackSameWrongFalsely : Prop := packSameRow.holds Try.pinned (OpenSpec.ofChange packSameWrong)

/-- 'linchpinlaw.SweepSame': WHATEVER THE INPUT: true; the input reads as it did. -/
def sweepSameSpec : ChangeSpec := { name := "sweepSame", fn := fun _ => fun
  | [d1, d2] => { results := [.lit (.bool true)], args := [d1, d2] }
  | _ => none }
def sweepSameRow : OpenClaim := { program := "ytjagbnaacfhokaa", sum := "ba923f4ba1fc89f6a132dbd3e4d8b7d4d4122970c92d045eb63eaa7897aa0a6d", func := "linchpin/linchpinlaw.SweepSame", spec := "sweepSame", unfollowed := true, recurses := true, apart := false }
def SweepSameSaid : Prop := sweepSameRow.holds Try.pinned (OpenSpec.ofChange sweepSameSpec)

/-- ITS FALSE NEIGHBOUR: 'it returns false'. Refute it at one input. -/
def sweepSameWrong : ChangeSpec := { name := "sweepSame", fn := fun _ => fun
  | [d1, d2] => { results := [.lit (.bool false)], args := [d1, d2] }
  | _ => none }
def SweepSameWrongFalsely : Prop := sweepSameRow.holds Try.pinned (OpenSpec.ofChange sweepSameWrong)

/- THE SECOND FORM. 'bulk': how many values and letters a reading holds, each counted each time it is reached (what is shared counts as often as it is met; a slice's spare places count too). A statement '..UptoSaid' is the law's where the arguments, and the package variables that the reading takes, are together of bulk at most 1048576: NARROWER than '..Said'. Prove '..Said' where nothing that the law and all that it calls make is longer than what came in: it says more and counts as full. Else prove '..UptoSaid'. A law counts once. -/
mutual
def uptoBulk {H : Type} : DataW H → Nat
  | .lit (.string bytes) => bytes.length + 1
  | .lit _ => 1
  | .nil => 1
  | .ptr d => uptoBulk d + 1
  | .slice elems spare => uptoBulkAll elems + uptoBulkAll spare + 1
  | .agg parts => uptoBulkAll parts + 1
  | .iface _ d => uptoBulk d + 1
  | .map entries => uptoBulkEntries entries + 1
  | .held _ => 1
def uptoBulkAll {H : Type} : List (DataW H) → Nat
  | [] => 0
  | d :: r => uptoBulk d + uptoBulkAll r
def uptoBulkEntries {H : Type} : List (Lit × DataW H) → Nat
  | [] => 0
  | x :: r => uptoBulkEntry x + uptoBulkEntries r
def uptoBulkEntry {H : Type} : Lit × DataW H → Nat
  | (.string bytes, d) => bytes.length + uptoBulk d + 1
  | (_, d) => uptoBulk d + 1
 end
def uptoSmall : (H : Type) → List (DataW H) → Bool := fun _ ds => decide (uptoBulkAll ds ≤ 1048576)
def OpenSpec.upto (s : _root_.Go.ChangeSpec) : _root_.Go.OpenSpec := { _root_.Go.OpenSpec.ofChange s with cond := some uptoSmall }

/-- 'linchpinlaw.NetTrue', WHERE WHAT IT READS IS OF BULK AT MOST 1048576: true; the input reads as it did. -/
def netTrueUptoRow : OpenClaim := { program := "ytjagbnaacfhokaa", sum := "ba923f4ba1fc89f6a132dbd3e4d8b7d4d4122970c92d045eb63eaa7897aa0a6d", func := "linchpin/linchpinlaw.NetTrue", spec := "netTrue", unfollowed := true, recurses := true, apart := false, narrowed := true }
def NetTrueUptoSaid : Prop := netTrueUptoRow.holds Try.pinned (OpenSpec.upto netTrueSpec)

/-- 'linchpinlaw.EvalSteps', WHERE WHAT IT READS IS OF BULK AT MOST 1048576: true; the input reads as it did. -/
def evalStepsUptoRow : OpenClaim := { program := "ytjagbnaacfhokaa", sum := "ba923f4ba1fc89f6a132dbd3e4d8b7d4d4122970c92d045eb63eaa7897aa0a6d", func := "linchpin/linchpinlaw.EvalSteps", spec := "evalSteps", unfollowed := true, recurses := true, apart := false, narrowed := true }
def EvalStepsUptoSaid : Prop := evalStepsUptoRow.holds Try.pinned (OpenSpec.upto evalStepsSpec)

/-- 'linchpinlaw.EvalSolves', WHERE WHAT IT READS IS OF BULK AT MOST 1048576: true; the input reads as it did. -/
def evalSolvesUptoRow : OpenClaim := { program := "ytjagbnaacfhokaa", sum := "ba923f4ba1fc89f6a132dbd3e4d8b7d4d4122970c92d045eb63eaa7897aa0a6d", func := "linchpin/linchpinlaw.EvalSolves", spec := "evalSolves", unfollowed := true, recurses := true, apart := false, narrowed := true }
def EvalSolvesUptoSaid : Prop := evalSolvesUptoRow.holds Try.pinned (OpenSpec.upto evalSolvesSpec)

/-- 'linchpinlaw.LevelOrders', WHERE WHAT IT READS IS OF BULK AT MOST 1048576: true; the input reads as it did. -/
def levelOrdersUptoRow : OpenClaim := { program := "ytjagbnaacfhokaa", sum := "ba923f4ba1fc89f6a132dbd3e4d8b7d4d4122970c92d045eb63eaa7897aa0a6d", func := "linchpin/linchpinlaw.LevelOrders", spec := "levelOrders", unfollowed := true, recurses := true, apart := false, narrowed := true }
def LevelOrdersUptoSaid : Prop := levelOrdersUptoRow.holds Try.pinned (OpenSpec.upto levelOrdersSpec)

/-- 'linchpinlaw.LevelTrue', WHERE WHAT IT READS IS OF BULK AT MOST 1048576: true; the input reads as it did. -/
def levelTrueUptoRow : OpenClaim := { program := "ytjagbnaacfhokaa", sum := "ba923f4ba1fc89f6a132dbd3e4d8b7d4d4122970c92d045eb63eaa7897aa0a6d", func := "linchpin/linchpinlaw.LevelTrue", spec := "levelTrue", unfollowed := true, recurses := true, apart := false, narrowed := true }
def LevelTrueUptoSaid : Prop := levelTrueUptoRow.holds Try.pinned (OpenSpec.upto levelTrueSpec)

/-- 'linchpinlaw.EvalTrue', WHERE WHAT IT READS IS OF BULK AT MOST 1048576: true; the input reads as it did. -/
def evalTrueUptoRow : OpenClaim := { program := "ytjagbnaacfhokaa", sum := "ba923f4ba1fc89f6a132dbd3e4d8b7d4d4122970c92d045eb63eaa7897aa0a6d", func := "linchpin/linchpinlaw.EvalTrue", spec := "evalTrue", unfollowed := true, recurses := true, apart := false, narrowed := true }
def EvalTrueUptoSaid : Prop := evalTrueUptoRow.holds Try.pinned (OpenSpec.upto evalTrueSpec)

/-- 'linchpinlaw.EvalMore', WHERE WHAT IT READS IS OF BULK AT MOST 1048576: true; the input reads as it did. -/
def evalMoreUptoRow : OpenClaim := { program := "ytjagbnaacfhokaa", sum := "ba923f4ba1fc89f6a132dbd3e4d8b7d4d4122970c92d045eb63eaa7897aa0a6d", func := "linchpin/linchpinlaw.EvalMore", spec := "evalMore", unfollowed := true, recurses := true, apart := false, narrowed := true }
def EvalMoreUptoSaid : Prop := evalMoreUptoRow.holds Try.pinned (OpenSpec.upto evalMoreSpec)

/-- 'linchpinlaw.PackSteps', WHERE WHAT IT READS IS OF BULK AT MOST 1048576: true; the input reads as it did. -/
def packStepsUptoRow : OpenClaim := { program := "ytjagbnaacfhokaa", sum := "ba923f4ba1fc89f6a132dbd3e4d8b7d4d4122970c92d045eb63eaa7897aa0a6d", func := "linchpin/linchpinlaw.PackSteps", spec := "packSteps", unfollowed := true, recurses := true, apart := false, narrowed := true }
def PackStepsUptoSaid : Prop := packStepsUptoRow.holds Try.pinned (OpenSpec.upto packStepsSpec)

/-- 'linchpinlaw.PackRuns', WHERE WHAT IT READS IS OF BULK AT MOST 1048576: true; the input reads as it did. -/
def packRunsUptoRow : OpenClaim := { program := "ytjagbnaacfhokaa", sum := "ba923f4ba1fc89f6a132dbd3e4d8b7d4d4122970c92d045eb63eaa7897aa0a6d", func := "linchpin/linchpinlaw.PackRuns", spec := "packRuns", unfollowed := true, recurses := true, apart := false, narrowed := true }
def PackRunsUptoSaid : Prop := packRunsUptoRow.holds Try.pinned (OpenSpec.upto packRunsSpec)

/-- 'linchpinlaw.LevelSteps', WHERE WHAT IT READS IS OF BULK AT MOST 1048576: true; the input reads as it did. -/
def levelStepsUptoRow : OpenClaim := { program := "ytjagbnaacfhokaa", sum := "ba923f4ba1fc89f6a132dbd3e4d8b7d4d4122970c92d045eb63eaa7897aa0a6d", func := "linchpin/linchpinlaw.LevelSteps", spec := "levelSteps", unfollowed := true, recurses := true, apart := false, narrowed := true }
def LevelStepsUptoSaid : Prop := levelStepsUptoRow.holds Try.pinned (OpenSpec.upto levelStepsSpec)

/-- 'linchpinlaw.ReachStates', WHERE WHAT IT READS IS OF BULK AT MOST 1048576: true; the input reads as it did. -/
def reachStatesUptoRow : OpenClaim := { program := "ytjagbnaacfhokaa", sum := "ba923f4ba1fc89f6a132dbd3e4d8b7d4d4122970c92d045eb63eaa7897aa0a6d", func := "linchpin/linchpinlaw.ReachStates", spec := "reachStates", unfollowed := true, recurses := true, apart := false, narrowed := true }
def ReachStatesUptoSaid : Prop := reachStatesUptoRow.holds Try.pinned (OpenSpec.upto reachStatesSpec)

/-- 'linchpinlaw.ReachBad', WHERE WHAT IT READS IS OF BULK AT MOST 1048576: true; the input reads as it did. -/
def reachBadUptoRow : OpenClaim := { program := "ytjagbnaacfhokaa", sum := "ba923f4ba1fc89f6a132dbd3e4d8b7d4d4122970c92d045eb63eaa7897aa0a6d", func := "linchpin/linchpinlaw.ReachBad", spec := "reachBad", unfollowed := true, recurses := true, apart := false, narrowed := true }
def ReachBadUptoSaid : Prop := reachBadUptoRow.holds Try.pinned (OpenSpec.upto reachBadSpec)

/-- 'linchpinlaw.TickDoes', WHERE WHAT IT READS IS OF BULK AT MOST 1048576: true; the input reads as it did. -/
def tickDoesUptoRow : OpenClaim := { program := "ytjagbnaacfhokaa", sum := "ba923f4ba1fc89f6a132dbd3e4d8b7d4d4122970c92d045eb63eaa7897aa0a6d", func := "linchpin/linchpinlaw.TickDoes", spec := "tickDoes", unfollowed := true, recurses := true, apart := false, narrowed := true }
def TickDoesUptoSaid : Prop := tickDoesUptoRow.holds Try.pinned (OpenSpec.upto tickDoesSpec)

/-- 'linchpinlaw.TickRuns', WHERE WHAT IT READS IS OF BULK AT MOST 1048576: true; the input reads as it did. -/
def tickRunsUptoRow : OpenClaim := { program := "ytjagbnaacfhokaa", sum := "ba923f4ba1fc89f6a132dbd3e4d8b7d4d4122970c92d045eb63eaa7897aa0a6d", func := "linchpin/linchpinlaw.TickRuns", spec := "tickRuns", unfollowed := true, recurses := true, apart := false, narrowed := true }
def TickRunsUptoSaid : Prop := tickRunsUptoRow.holds Try.pinned (OpenSpec.upto tickRunsSpec)

/-- 'linchpinlaw.TickSplit', WHERE WHAT IT READS IS OF BULK AT MOST 1048576: true; the input reads as it did. -/
def tickSplitUptoRow : OpenClaim := { program := "ytjagbnaacfhokaa", sum := "ba923f4ba1fc89f6a132dbd3e4d8b7d4d4122970c92d045eb63eaa7897aa0a6d", func := "linchpin/linchpinlaw.TickSplit", spec := "tickSplit", unfollowed := true, recurses := true, apart := false, narrowed := true }
def TickSplitUptoSaid : Prop := tickSplitUptoRow.holds Try.pinned (OpenSpec.upto tickSplitSpec)

/-- 'linchpinlaw.ReachTrue', WHERE WHAT IT READS IS OF BULK AT MOST 1048576: true; the input reads as it did. -/
def reachTrueUptoRow : OpenClaim := { program := "ytjagbnaacfhokaa", sum := "ba923f4ba1fc89f6a132dbd3e4d8b7d4d4122970c92d045eb63eaa7897aa0a6d", func := "linchpin/linchpinlaw.ReachTrue", spec := "reachTrue", unfollowed := true, recurses := true, apart := false, narrowed := true }
def ReachTrueUptoSaid : Prop := reachTrueUptoRow.holds Try.pinned (OpenSpec.upto reachTrueSpec)

/-- 'linchpinlaw.ReachWay', WHERE WHAT IT READS IS OF BULK AT MOST 1048576: true; the input reads as it did. -/
def reachWayUptoRow : OpenClaim := { program := "ytjagbnaacfhokaa", sum := "ba923f4ba1fc89f6a132dbd3e4d8b7d4d4122970c92d045eb63eaa7897aa0a6d", func := "linchpin/linchpinlaw.ReachWay", spec := "reachWay", unfollowed := true, recurses := true, apart := false, narrowed := true }
def ReachWayUptoSaid : Prop := reachWayUptoRow.holds Try.pinned (OpenSpec.upto reachWaySpec)

/-- 'linchpinlaw.SweepTells', WHERE WHAT IT READS IS OF BULK AT MOST 1048576: true; the input reads as it did. -/
def sweepTellsUptoRow : OpenClaim := { program := "ytjagbnaacfhokaa", sum := "ba923f4ba1fc89f6a132dbd3e4d8b7d4d4122970c92d045eb63eaa7897aa0a6d", func := "linchpin/linchpinlaw.SweepTells", spec := "sweepTells", unfollowed := true, recurses := true, apart := false, narrowed := true }
def SweepTellsUptoSaid : Prop := sweepTellsUptoRow.holds Try.pinned (OpenSpec.upto sweepTellsSpec)

/-- 'linchpinlaw.SweepFold', WHERE WHAT IT READS IS OF BULK AT MOST 1048576: true; the input reads as it did. -/
def sweepFoldUptoRow : OpenClaim := { program := "ytjagbnaacfhokaa", sum := "ba923f4ba1fc89f6a132dbd3e4d8b7d4d4122970c92d045eb63eaa7897aa0a6d", func := "linchpin/linchpinlaw.SweepFold", spec := "sweepFold", unfollowed := true, recurses := true, apart := false, narrowed := true }
def SweepFoldUptoSaid : Prop := sweepFoldUptoRow.holds Try.pinned (OpenSpec.upto sweepFoldSpec)

/-- 'linchpinlaw.SweepDrop', WHERE WHAT IT READS IS OF BULK AT MOST 1048576: true; the input reads as it did. -/
def sweepDropUptoRow : OpenClaim := { program := "ytjagbnaacfhokaa", sum := "ba923f4ba1fc89f6a132dbd3e4d8b7d4d4122970c92d045eb63eaa7897aa0a6d", func := "linchpin/linchpinlaw.SweepDrop", spec := "sweepDrop", unfollowed := true, recurses := true, apart := false, narrowed := true }
def SweepDropUptoSaid : Prop := sweepDropUptoRow.holds Try.pinned (OpenSpec.upto sweepDropSpec)

/-- 'linchpinlaw.RestNets', WHERE WHAT IT READS IS OF BULK AT MOST 1048576: true; the input reads as it did. -/
def restNetsUptoRow : OpenClaim := { program := "ytjagbnaacfhokaa", sum := "ba923f4ba1fc89f6a132dbd3e4d8b7d4d4122970c92d045eb63eaa7897aa0a6d", func := "linchpin/linchpinlaw.RestNets", spec := "restNets", unfollowed := true, recurses := true, apart := false, narrowed := true }
def RestNetsUptoSaid : Prop := restNetsUptoRow.holds Try.pinned (OpenSpec.upto restNetsSpec)

/-- 'linchpinlaw.PackSame', WHERE WHAT IT READS IS OF BULK AT MOST 1048576: true; the input reads as it did. -/
def packSameUptoRow : OpenClaim := { program := "ytjagbnaacfhokaa", sum := "ba923f4ba1fc89f6a132dbd3e4d8b7d4d4122970c92d045eb63eaa7897aa0a6d", func := "linchpin/linchpinlaw.PackSame", spec := "packSame", unfollowed := true, recurses := true, apart := false, narrowed := true }
def PackSameUptoSaid : Prop := packSameUptoRow.holds Try.pinned (OpenSpec.upto packSameSpec)

/-- 'linchpinlaw.SweepSame', WHERE WHAT IT READS IS OF BULK AT MOST 1048576: true; the input reads as it did. -/
def sweepSameUptoRow : OpenClaim := { program := "ytjagbnaacfhokaa", sum := "ba923f4ba1fc89f6a132dbd3e4d8b7d4d4122970c92d045eb63eaa7897aa0a6d", func := "linchpin/linchpinlaw.SweepSame", spec := "sweepSame", unfollowed := true, recurses := true, apart := false, narrowed := true }
def SweepSameUptoSaid : Prop := sweepSameUptoRow.holds Try.pinned (OpenSpec.upto sweepSameSpec)

end Rows
end Go.Proofs.Ytjagbnaacfhokaa
