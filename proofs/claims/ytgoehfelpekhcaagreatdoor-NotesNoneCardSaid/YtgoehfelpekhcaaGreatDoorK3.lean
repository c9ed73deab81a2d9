import Derived.Test.YtgoehfelpekhcaaGreatDoorVN7
set_option linter.unusedSimpArgs false
set_option linter.unusedVariables false
set_option linter.unusedSectionVars false
/- NotesNone: reckoned out, whatever the number. -/
set_option maxRecDepth 100000
namespace Go.Proofs.YtgoehfelpekhcaaGreatDoor
open Go.AM

noncomputable def orcA : OrcP := fun g args M => match args with
  | [] => cond (Nat.beq g 12) (some (.val (.bool true), M)) none
  | _ :: _ => none
theorem orcA_ok : OrcPOk tb orcA := by
  intro g args M x M' h
  unfold orcA at h
  split at h
  · rw [cond_eq_ite] at h
    split at h
    · rename_i hg
      have hg : g = 12 := by simpa using hg
      subst hg
      simp only [Option.some.injEq, Prod.mk.injEq] at h
      obtain ⟨rfl, rfl⟩ := h
      exact notes_awake M
    · cases h
  · cases h

set_option maxRecDepth 1000000 in
set_option maxHeartbeats 0 in
theorem notes_none (M : Mem) (z : Int) : CallA tb.P 3 [.val (.int .i64 z)] M fun v _ => v = .val (.bool true) :=
  (closedH_bool tb_ok tb_mix tb_fns orcA_ok (mls := mlF) (L := 1000000) (n := 60) (b := true) (fun x hx => by
    simp only [List.mem_cons, List.not_mem_nil, or_false] at hx; subst hx; exact .val _) (by kernel_rfl) M).mono fun _ _ h => h.1

end Go.Proofs.YtgoehfelpekhcaaGreatDoor
