import Derived.Test.YtjffimbigamadaaB3
import Derived.Test.YtjffimbigamadaaG19
set_option linter.unusedSimpArgs false
set_option linter.unusedVariables false
set_option linter.unusedSectionVars false
/- ChipFaults. -/
namespace Go.Proofs.Ytjffimbigamadaa
open Go.AM
end Go.Proofs.Ytjffimbigamadaa
