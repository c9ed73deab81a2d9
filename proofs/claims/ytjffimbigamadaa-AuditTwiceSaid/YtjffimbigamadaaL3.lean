import Derived.Test.YtjffimbigamadaaH11
import Derived.Test.YtjffimbigamadaaL2
set_option linter.unusedSimpArgs false
set_option linter.unusedVariables false
set_option linter.unusedSectionVars false
/- Arguments that are pages to be programmed. -/
namespace Go.Proofs.Ytjffimbigamadaa
open Go.AM
open Go.ChangeShapes Go.WideShapes Go.RowKit
end Go.Proofs.Ytjffimbigamadaa
