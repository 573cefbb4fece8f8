/- Package prog walked. -/
import Derived.Test.YtjagbnaacfhokaaChecked
import Derived.Test.YtjagbnaacfhokaaLib
import Derived.Test.YtjagbnaacfhokaaPgPlain
namespace Go.Proofs.Ytjagbnaacfhokaa
set_option linter.unusedVariables false
set_option linter.unusedSimpArgs false
open Go.RowKit

abbrev PK (x : PNode) : Value := I x.kind
abbrev PS (x : PNode) : Value := I x.sig
/-- A list of nodes, as a slice. -/
abbrev SlN := Sl2 PK PS

end Go.Proofs.Ytjagbnaacfhokaa
