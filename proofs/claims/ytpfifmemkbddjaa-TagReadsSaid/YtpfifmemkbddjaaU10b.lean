import Derived.Test.YtpfifmemkbddjaaT10
import Derived.Test.YtpfifmemkbddjaaRows
set_option linter.unusedSimpArgs false
set_option linter.unusedVariables false
/- TagReads: for every input the law answers true and leaves its arguments as they read. Without conditions. -/
namespace Go.Proofs.Ytpfifmemkbddjaa
open Go.AM
open Go.ChangeShapes Go.WideShapes Go.RowKit

theorem Try.own : ownKnob Try.prog.godebug = none := by kernel_rfl
theorem Try.laidOut : laidOutB Try.prog = true := by kernel_rfl

set_option maxRecDepth 100000 in
theorem reads_holds_lifted (os : Os) (started : os.Started) (H : Type) (enc : TypeId × Value → H) :
    ReturnsInHanded {} Try.checked os 7 .any (Rows.tagReadsSpec.pre6 enc Try.prog Try.f7 Rows.tagReadsRow.domain false) (Rows.tagReadsSpec.post enc Try.prog Try.f7 false true false false) := by
  refine law_lift (C := Try.checked) (f := 7) (fn := Try.f7) (tb := 4) Try.own started (by kernel_rfl) Try.func7 Try.laidOut
    (ChangeSpec.witness6 (enc := enc) (C := Try.checked) false ⟨#[], #[.slice none 0 0], []⟩ 8 (by kernel_rfl) (by kernel_rfl) (by kernel_rfl) (by kernel_rfl))
    rfl (fun ds hds => ?_) ?_ (by kernel_rfl) (by kernel_rfl) ?_
  · have hp : Try.f7.params.size = 1 := by kernel_rfl
    rw [hp] at hds
    obtain ⟨d0, rfl⟩ : ∃ d0, ds = [d0] := by
      match ds, hds with
      | [d0], _ => exact ⟨d0, rfl⟩
    rfl
  · have hp : (Try.f7.params.toList.all fun t => Try.prog.readableRec t && decide (t < Try.prog.types.size)) = true := by kernel_rfl
    intro t ht
    have := List.all_eq_true.1 hp t ht
    rw [Bool.and_eq_true, decide_eq_true_eq] at this
    exact this
  · intro W base args ds ps hval0 hA0
    have hval : ∀ (j : Nat) t v, Try.f7.params[j]? = some t → args[j]? = some v → Value.okWide Try.prog W .any base t v := hval0
    have hA : DataW.TrodAll enc Try.prog W 0 (fun _ => true) true Try.f7.params.toList args.toList ds ps := hA0
    have hp : Try.f7.params = #[22] := by kernel_rfl
    rw [hp] at hA hval
    obtain ⟨v0, d0, rfl, rfl, h0⟩ := trodAll_one hA
    obtain ⟨x0, l0, g0, g0_1, g0_2⟩ := bytes_arg (t := 22) (e := 5) (by kernel_rfl) (by kernel_rfl) (by kernel_rfl) (hval 0 22 v0 rfl rfl) h0
    exact calls_of_calla ((fun M hw x a hx hl => tag_reads M hw x a hx hl) _ (memOf_wf W) x0 l0 g0_1 g0_2) (.cons _ _ _ _ g0 .nil)

theorem reads_holds : Rows.TagReadsSaid :=
  OpenClaim.holds_of_wide 7 Try.f7 rfl rfl rfl rfl rfl rfl rfl ⟨rfl, rfl, rfl, rfl, rfl⟩ rfl rfl rfl rfl rfl (by kernel_rfl) Try.func7 (by kernel_rfl)
    (of_decide_eq_true (by kernel_rfl)) (by unfold Func.isWrapper; first | (rw [if_pos (by decide +kernel)]; kernel_rfl) | (rw [if_neg (by decide +kernel)]; exact ⟨rfl, rfl⟩))
    (fun os started H enc _ => reads_holds_lifted os started H enc)


end Go.Proofs.Ytpfifmemkbddjaa
