import Derived.Test.YtmifiialedlcnaaGreatDoorA37
import Derived.Test.YtmifiialedlcnaaGreatDoorB3
import Derived.Test.YtmifiialedlcnaaGreatDoorTb4
set_option linter.unusedSimpArgs false
set_option linter.unusedVariables false
/- DeskNone: reckoned out, whatever the number. -/
namespace Go.Proofs.YtmifiialedlcnaaGreatDoor
open Go.AM

set_option maxRecDepth 1000000 in
theorem desk_none (M : Mem) (z : Int) : CallA tb.P 3 [.val (.int .i64 z)] M fun v _ => v = .val (.bool true) :=
  (closed_bool tb_ok tb_mix tb_fns (noOrc_ok tb) (L := 1000000) (n := 200) (b := true) (fun x hx => by
    simp only [List.mem_cons, List.not_mem_nil, or_false] at hx; subst hx; exact .val _) (by kernel_rfl) M).mono fun _ _ h => h.1

end Go.Proofs.YtmifiialedlcnaaGreatDoor
