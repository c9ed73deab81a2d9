import Derived.Test.YtjffimbigamadaaG13
import Derived.Test.YtjffimbigamadaaKA
set_option linter.unusedSimpArgs false
set_option linter.unusedVariables false
set_option linter.unusedSectionVars false
/- What the laws do with a chip without faults. -/
namespace Go.Proofs.Ytjffimbigamadaa
open Go.AM

section
variable {M : Mem} {p F G : Nat} {C : Chip} {g : Geo} {i : Nat} {l : List (BitVec 8)} {nx wr : Int}
end

theorem nil_nil24 {M : Mem} {xo yo : Operand} : eBin tb .eql 24 xo yo (.val (.pointer none)) (.val (.pointer none)) M = some (.val (.bool true), M) := eBin_some (by kernel_rfl)

end Go.Proofs.Ytjffimbigamadaa
