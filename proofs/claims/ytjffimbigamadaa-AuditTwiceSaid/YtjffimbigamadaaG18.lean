import Derived.Test.YtjffimbigamadaaB3
import Derived.Test.YtjffimbigamadaaG17
set_option linter.unusedSimpArgs false
set_option linter.unusedVariables false
set_option linter.unusedSectionVars false
/- ChipCuts. -/
namespace Go.Proofs.Ytjffimbigamadaa
open Go.AM
end Go.Proofs.Ytjffimbigamadaa
