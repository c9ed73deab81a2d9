import Derived.Test.YtjffimbigamadaaG21
set_option linter.unusedSimpArgs false
set_option linter.unusedVariables false
set_option linter.unusedSectionVars false
/- Arguments that are faults. -/
namespace Go.Proofs.Ytjffimbigamadaa
open Go.AM
open Go.ChangeShapes Go.WideShapes Go.RowKit
end Go.Proofs.Ytjffimbigamadaa
