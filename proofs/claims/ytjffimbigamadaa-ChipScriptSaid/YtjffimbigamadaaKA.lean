import Derived.Test.YtjffimbigamadaaA37
import Derived.Test.YtjffimbigamadaaTb2
set_option linter.unusedSimpArgs false
set_option linter.unusedVariables false
/- The chip laws awake: reckoned out. -/
namespace Go.Proofs.Ytjffimbigamadaa
open Go.AM

set_option maxRecDepth 1000000 in
theorem chip_awake (M : Mem) : CallA tb.P 17 [] M fun y N => y = .val (.bool true) ∧ N = M :=
  closed_bool tb_ok tb_mix tb_fns (noOrc_ok tb) (L := 1000000) (n := 60) (b := true) (fun x hx => by simp at hx) (by kernel_rfl) M

end Go.Proofs.Ytjffimbigamadaa
