/-
  DERIVED. GIVEN WITH THE SEED: THE CARDS: each row of YtgohhcnmkomafaaDoorRows.lean that lists a variable, with what it lists TIED to the program's text (the seventh form; the later family's looks); each row that meets fmt, with fmt's text TOLD by the authors' own Lean function (tested against real Go, not proved from fmt's source: count such statements apart). THE CARD IS WHAT COUNTS. Prove the row's statement (the work); the ties are given (YtgohhcnmkomafaaDoorTie.lean); close each card by the builder's one call (the guide's Derived/Test/ToyasCard.lean, 'card_holds'). Laid BY PROGRAM, IN A SANDBOX (cutbox-door.mjs). By AI agents, Wed Nov 11 2026. No macro, syntax, notation, axiom, sorry.
-/
import Derived.Test.YtgohhcnmkomafaaDoorRows
import GoSem.ClaimSeven
namespace Go.Proofs.YtgohhcnmkomafaaDoor
namespace Rows

/-- THE TIED CARD OF 'linchpinlaw.DeskTicks'. -/
def deskTicksCard : Claim7 := { stood := { row := deskTicksRow, standIns := [], harness := (true, "f5be4a95336d7b52677855e7d8ce615199c063b31b4562abdd7471d5f7400b3d"), looks := false }, kinds := [], alts := [], laidByText := true, laidKinds := [.data, .data, .data, .data, .pinned], laidTests := true, laidLooks := .later }
def DeskTicksCardSaid : Prop := Claim7.holds Tryd.pinned (.plain (OpenSpec.ofChange deskTicksSpec)) deskTicksCard

/-- THE SECOND FORM's CARD OF 'linchpinlaw.DeskTicks'. -/
def deskTicksUptoCard : Claim7 := { stood := { row := deskTicksUptoRow, standIns := [], harness := (true, "f5be4a95336d7b52677855e7d8ce615199c063b31b4562abdd7471d5f7400b3d"), looks := false }, kinds := [], alts := [], laidByText := true, laidKinds := [.data, .data, .data, .data, .pinned], laidTests := true, laidLooks := .later }
def DeskTicksUptoCardSaid : Prop := Claim7.holds Tryd.pinned (.plain (OpenSpec.upto deskTicksSpec)) deskTicksUptoCard
end Rows
end Go.Proofs.YtgohhcnmkomafaaDoor
