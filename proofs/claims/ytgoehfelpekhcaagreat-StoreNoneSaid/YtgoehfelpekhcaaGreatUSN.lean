import Derived.Test.YtgoehfelpekhcaaGreatK2
import Derived.Test.YtgoehfelpekhcaaGreatRows
set_option linter.unusedSimpArgs false
set_option linter.unusedVariables false
set_option linter.unusedSectionVars false
/- StoreNone: of none each call says so, whatever the input. Without conditions. -/
namespace Go.Proofs.YtgoehfelpekhcaaGreat
open Go.AM
open Go.ChangeShapes Go.WideShapes Go.RowKit

theorem Tryz.own : ownKnob Tryz.prog.godebug = none := by kernel_rfl
theorem Tryz.laidOut : laidOutB Tryz.prog = true := by kernel_rfl

set_option maxRecDepth 100000 in
theorem none_holds_lifted (os : Os) (started : os.Started) (H : Type) (enc : TypeId × Value → H) :
    ReturnsInHanded {} Tryz.checked os 3 .any (Rows.storeNoneSpec.pre6 enc Tryz.prog Tryz.f3 Rows.storeNoneRow.domain false) (Rows.storeNoneSpec.post enc Tryz.prog Tryz.f3 false true false false) := by
  refine law_lift (C := Tryz.checked) (f := 3) (fn := Tryz.f3) (tb := 4) Tryz.own started (by kernel_rfl) Tryz.func3 Tryz.laidOut
    (ChangeSpec.witness6 (enc := enc) (C := Tryz.checked) false ⟨#[], #[.int .i64 0], []⟩ 8 (by kernel_rfl) (by kernel_rfl) (by kernel_rfl) (by kernel_rfl))
    rfl (fun ds hds => ?_) ?_ (by kernel_rfl) (by kernel_rfl) ?_
  · have hp : Tryz.f3.params.size = 1 := by kernel_rfl
    rw [hp] at hds
    obtain ⟨d0, rfl⟩ : ∃ d0, ds = [d0] := by
      match ds, hds with
      | [d0], _ => exact ⟨d0, rfl⟩
    rfl
  · have hp : (Tryz.f3.params.toList.all fun t => Tryz.prog.readableRec t && decide (t < Tryz.prog.types.size)) = true := by kernel_rfl
    intro t ht
    have := List.all_eq_true.1 hp t ht
    rw [Bool.and_eq_true, decide_eq_true_eq] at this
    exact this
  · intro W base args ds ps hval0 hA0
    have hval : ∀ (j : Nat) t v, Tryz.f3.params[j]? = some t → args[j]? = some v → Value.okWide Tryz.prog W .any base t v := hval0
    have hA : DataW.TrodAll enc Tryz.prog W 0 (fun _ => true) true Tryz.f3.params.toList args.toList ds ps := hA0
    have hp : Tryz.f3.params = #[3] := by kernel_rfl
    rw [hp] at hA hval
    obtain ⟨v0, d0, rfl, rfl, h0⟩ := trodAll_one hA
    obtain ⟨z0, rfl, z0_1, z0_2⟩ := int_arg (k := .i64) (t := 3) (by kernel_rfl) (hval 0 3 v0 rfl rfl)
    exact calls_of_calla (store_none _ (memOf_wf W) z0) (.cons _ _ _ _ (.val _ rfl) .nil)

theorem none_holds : Rows.StoreNoneSaid :=
  OpenClaim.holds_of_wide 3 Tryz.f3 rfl rfl rfl rfl rfl rfl rfl ⟨rfl, rfl, rfl, rfl, rfl⟩ rfl rfl rfl rfl rfl (by kernel_rfl) Tryz.func3 (by kernel_rfl)
    (of_decide_eq_true (by kernel_rfl)) (by unfold Func.isWrapper; first | (rw [if_pos (by decide +kernel)]; kernel_rfl) | (rw [if_neg (by decide +kernel)]; exact ⟨rfl, rfl⟩))
    (fun os started H enc _ => none_holds_lifted os started H enc)


end Go.Proofs.YtgoehfelpekhcaaGreat
