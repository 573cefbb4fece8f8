/- prog.Of, prog.Parts. -/
import Derived.Test.YtjagbnaacfhokaaPg
namespace Go.Proofs.Ytjagbnaacfhokaa
set_option linter.unusedVariables false
set_option linter.unusedSimpArgs false
open Go.RowKit

end Go.Proofs.Ytjagbnaacfhokaa
