import Derived.Test.YtmifiialedlcnaaK9
import Derived.Test.YtmifiialedlcnaaRows
set_option linter.unusedSimpArgs false
set_option linter.unusedVariables false
/- ChipNone: for every number the law answers true. Without conditions. -/
namespace Go.Proofs.Ytmifiialedlcnaa
open Go.AM
open Go.ChangeShapes Go.WideShapes Go.RowKit

theorem Try.own : ownKnob Try.prog.godebug = none := by kernel_rfl
theorem Try.laidOut : laidOutB Try.prog = true := by kernel_rfl

set_option maxRecDepth 100000 in
theorem none_holds_lifted (os : Os) (started : os.Started) (H : Type) (enc : TypeId × Value → H) :
    ReturnsInHanded {} Try.checked os 9 .any (Rows.chipNoneSpec.pre6 enc Try.prog Try.f9 Rows.chipNoneRow.domain false) (Rows.chipNoneSpec.post enc Try.prog Try.f9 false true false false) := by
  refine law_lift (C := Try.checked) (f := 9) (fn := Try.f9) (tb := 4) Try.own started (by kernel_rfl) Try.func9 Try.laidOut
    (ChangeSpec.witness6 (enc := enc) (C := Try.checked) false ⟨#[], #[.int .i64 0], []⟩ 8 (by kernel_rfl) (by kernel_rfl) (by kernel_rfl) (by kernel_rfl))
    rfl (fun ds hds => ?_) ?_ (by kernel_rfl) (by kernel_rfl) ?_
  · have hp : Try.f9.params.size = 1 := by kernel_rfl
    rw [hp] at hds
    obtain ⟨d0, rfl⟩ : ∃ d0, ds = [d0] := by
      match ds, hds with
      | [d0], _ => exact ⟨d0, rfl⟩
    rfl
  · have hp : (Try.f9.params.toList.all fun t => Try.prog.readableRec t && decide (t < Try.prog.types.size)) = true := by kernel_rfl
    intro t ht
    have := List.all_eq_true.1 hp t ht
    rw [Bool.and_eq_true, decide_eq_true_eq] at this
    exact this
  · intro W base args ds ps hval0 hA0
    have hval : ∀ (j : Nat) t v, Try.f9.params[j]? = some t → args[j]? = some v → Value.okWide Try.prog W .any base t v := hval0
    have hA : DataW.TrodAll enc Try.prog W 0 (fun _ => true) true Try.f9.params.toList args.toList ds ps := hA0
    have hp : Try.f9.params = #[3] := by kernel_rfl
    rw [hp] at hA hval
    obtain ⟨v0, d0, rfl, rfl, h0⟩ := trodAll_one hA
    obtain ⟨z0, rfl, z0_1, z0_2⟩ := int_arg (k := .i64) (t := 3) (by kernel_rfl) (hval 0 3 v0 rfl rfl)
    exact calls_of_calla ((fun M hw z => chip_none M z) _ (memOf_wf W) z0) (.cons _ _ _ _ (.val _ rfl) .nil)

theorem none_holds : Rows.ChipNoneSaid :=
  OpenClaim.holds_of_wide 9 Try.f9 rfl rfl rfl rfl rfl rfl rfl ⟨rfl, rfl, rfl, rfl, rfl⟩ rfl rfl rfl rfl rfl (by kernel_rfl) Try.func9 (by kernel_rfl)
    (of_decide_eq_true (by kernel_rfl)) (by unfold Func.isWrapper; first | (rw [if_pos (by decide +kernel)]; kernel_rfl) | (rw [if_neg (by decide +kernel)]; exact ⟨rfl, rfl⟩))
    (fun os started H enc _ => none_holds_lifted os started H enc)


end Go.Proofs.Ytmifiialedlcnaa
