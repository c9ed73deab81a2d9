import Derived.Test.YtjffimbigamadaaG15
set_option linter.unusedSimpArgs false
set_option linter.unusedVariables false
set_option linter.unusedSectionVars false
/- ChipTears. -/
namespace Go.Proofs.Ytjffimbigamadaa
open Go.AM

section
variable {C : Chip} {g : Geo} {i : Nat} {l : List (BitVec 8)} {nx wr : Int}
end
end Go.Proofs.Ytjffimbigamadaa
