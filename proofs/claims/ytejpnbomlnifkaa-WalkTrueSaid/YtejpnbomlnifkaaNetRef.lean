/- The reference's CheckNet walked. -/
import Derived.Test.YtejpnbomlnifkaaNetChk2
namespace Go.Proofs.Ytejpnbomlnifkaa
set_option linter.unusedVariables false
set_option linter.unusedSimpArgs false
open Go.RowKit

end Go.Proofs.Ytejpnbomlnifkaa
