import Derived.Test.YtpfifmemkbddjaaT14
import Derived.Test.YtpfifmemkbddjaaRows
set_option linter.unusedSimpArgs false
set_option linter.unusedVariables false
/- TagLengths: for every input the law answers true and leaves its arguments as they read. Without conditions. -/
namespace Go.Proofs.Ytpfifmemkbddjaa
open Go.AM
open Go.ChangeShapes Go.WideShapes Go.RowKit

theorem Try.own : ownKnob Try.prog.godebug = none := by kernel_rfl
theorem Try.laidOut : laidOutB Try.prog = true := by kernel_rfl

set_option maxRecDepth 100000 in
theorem lengths_holds_lifted (os : Os) (started : os.Started) (H : Type) (enc : TypeId × Value → H) :
    ReturnsInHanded {} Try.checked os 11 .any (Rows.tagLengthsSpec.pre6 enc Try.prog Try.f11 Rows.tagLengthsRow.domain false) (Rows.tagLengthsSpec.post enc Try.prog Try.f11 false true false false) := by
  refine law_lift (C := Try.checked) (f := 11) (fn := Try.f11) (tb := 4) Try.own started (by kernel_rfl) Try.func11 Try.laidOut
    (ChangeSpec.witness6 (enc := enc) (C := Try.checked) false ⟨#[], #[.slice none 0 0, .agg #[.int .i64 0, .int .i64 0, .int .i64 0, .int .i64 0]], []⟩ 8 (by kernel_rfl) (by kernel_rfl) (by kernel_rfl) (by kernel_rfl))
    rfl (fun ds hds => ?_) ?_ (by kernel_rfl) (by kernel_rfl) ?_
  · have hp : Try.f11.params.size = 2 := by kernel_rfl
    rw [hp] at hds
    obtain ⟨d0, d1, rfl⟩ : ∃ d0 d1, ds = [d0, d1] := by
      match ds, hds with
      | [d0, d1], _ => exact ⟨d0, d1, rfl⟩
    rfl
  · have hp : (Try.f11.params.toList.all fun t => Try.prog.readableRec t && decide (t < Try.prog.types.size)) = true := by kernel_rfl
    intro t ht
    have := List.all_eq_true.1 hp t ht
    rw [Bool.and_eq_true, decide_eq_true_eq] at this
    exact this
  · intro W base args ds ps hval0 hA0
    have hval : ∀ (j : Nat) t v, Try.f11.params[j]? = some t → args[j]? = some v → Value.okWide Try.prog W .any base t v := hval0
    have hA : DataW.TrodAll enc Try.prog W 0 (fun _ => true) true Try.f11.params.toList args.toList ds ps := hA0
    have hp : Try.f11.params = #[22, 34] := by kernel_rfl
    rw [hp] at hA hval
    obtain ⟨v0, v1, d0, d1, p0, p1, rfl, rfl, rfl, h0, h1⟩ := trodAll_two hA
    obtain ⟨x0, l0, g0, g0_1, g0_2⟩ := bytes_arg (t := 22) (e := 5) (by kernel_rfl) (by kernel_rfl) (by kernel_rfl) (hval 0 22 v0 rfl rfl) h0
    obtain ⟨zs1, rfl, zl1, zr1⟩ := ints_agg (t := 34) (ts := [3, 3, 3, 3]) (by kernel_rfl) (by kernel_rfl) (by kernel_rfl) (by kernel_rfl) (hval 1 34 v1 rfl rfl)
    obtain ⟨z1_0, z1_1, z1_2, z1_3, rfl⟩ : ∃ z1_0 z1_1 z1_2 z1_3, zs1 = [z1_0, z1_1, z1_2, z1_3] := by
      match zs1, zl1 with
      | [z1_0, z1_1, z1_2, z1_3], _ => exact ⟨z1_0, z1_1, z1_2, z1_3, rfl⟩
    exact calls_of_calla ((fun M hw x a hx hl k p s e _ => tag_lengths M hw x a hx hl k p s e) _ (memOf_wf W) x0 l0 g0_1 g0_2 z1_0 z1_1 z1_2 z1_3 (fun z hz => zr1 z hz)) (.cons _ _ _ _ g0 (.cons _ _ _ _ (vr_agg [z1_0, z1_1, z1_2, z1_3]) .nil))

theorem lengths_holds : Rows.TagLengthsSaid :=
  OpenClaim.holds_of_wide 11 Try.f11 rfl rfl rfl rfl rfl rfl rfl ⟨rfl, rfl, rfl, rfl, rfl⟩ rfl rfl rfl rfl rfl (by kernel_rfl) Try.func11 (by kernel_rfl)
    (of_decide_eq_true (by kernel_rfl)) (by unfold Func.isWrapper; first | (rw [if_pos (by decide +kernel)]; kernel_rfl) | (rw [if_neg (by decide +kernel)]; exact ⟨rfl, rfl⟩))
    (fun os started H enc _ => lengths_holds_lifted os started H enc)


end Go.Proofs.Ytpfifmemkbddjaa
