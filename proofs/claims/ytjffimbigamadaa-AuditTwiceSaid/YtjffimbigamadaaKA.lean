import Derived.Test.YtjffimbigamadaaA37
import Derived.Test.YtjffimbigamadaaTb2
set_option linter.unusedSimpArgs false
set_option linter.unusedVariables false
set_option linter.unusedSectionVars false
/- The chip laws awake: reckoned out. -/
namespace Go.Proofs.Ytjffimbigamadaa
open Go.AM
end Go.Proofs.Ytjffimbigamadaa
