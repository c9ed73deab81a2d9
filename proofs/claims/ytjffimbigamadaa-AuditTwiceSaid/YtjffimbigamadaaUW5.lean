import Derived.Test.YtjffimbigamadaaW5
import Derived.Test.YtjffimbigamadaaRows
set_option linter.unusedSimpArgs false
set_option linter.unusedVariables false
set_option linter.unusedSectionVars false
/- AuditTwice: two valid pages of one number are told; without power that is told first. -/
namespace Go.Proofs.Ytjffimbigamadaa
open Go.AM
open Go.ChangeShapes Go.WideShapes Go.RowKit

theorem Try.own : ownKnob Try.prog.godebug = none := by kernel_rfl
theorem Try.laidOut : laidOutB Try.prog = true := by kernel_rfl

set_option maxRecDepth 100000 in
theorem twice_holds_lifted (os : Os) (started : os.Started) (H : Type) (enc : TypeId × Value → H) :
    ReturnsInHanded {} Try.checked os 14 .any (Rows.auditTwiceSpec.pre6 enc Try.prog Try.f14 Rows.auditTwiceRow.domain false) (Rows.auditTwiceSpec.post enc Try.prog Try.f14 false true false false) := by
  refine law_lift (C := Try.checked) (f := 14) (fn := Try.f14) (tb := 4) Try.own started (by kernel_rfl) Try.func14 Try.laidOut
    (ChangeSpec.witness6 (enc := enc) (C := Try.checked) false ⟨#[], #[.agg #[.int .i64 0, .int .i64 0, .int .i64 0, .int .i64 0, .int .i64 0], .int .i64 0, .int .i64 0], []⟩ 8 (by kernel_rfl) (by kernel_rfl) (by kernel_rfl) (by kernel_rfl))
    rfl (fun ds hds => ?_) ?_ (by kernel_rfl) (by kernel_rfl) ?_
  · have hp : Try.f14.params.size = 3 := by kernel_rfl
    rw [hp] at hds
    obtain ⟨d0, d1, d2, rfl⟩ : ∃ d0 d1 d2, ds = [d0, d1, d2] := by
      match ds, hds with
      | [d0, d1, d2], _ => exact ⟨d0, d1, d2, rfl⟩
    rfl
  · have hp : (Try.f14.params.toList.all fun t => Try.prog.readableRec t && decide (t < Try.prog.types.size)) = true := by kernel_rfl
    intro t ht
    have := List.all_eq_true.1 hp t ht
    rw [Bool.and_eq_true, decide_eq_true_eq] at this
    exact this
  · intro W base args ds ps hval0 hA0
    have hval : ∀ (j : Nat) t v, Try.f14.params[j]? = some t → args[j]? = some v → Value.okWide Try.prog W .any base t v := hval0
    have hA : DataW.TrodAll enc Try.prog W 0 (fun _ => true) true Try.f14.params.toList args.toList ds ps := hA0
    have hp : Try.f14.params = #[23, 3, 3] := by kernel_rfl
    rw [hp] at hA hval
    obtain ⟨v0, v1, v2, d0, d1, d2, p0, p1, p2, rfl, rfl, rfl, h0, h1, h2⟩ := trodAll_three hA
    obtain ⟨zs0, rfl, zl0, zr0⟩ := ints_agg (t := 23) (ts := [3, 3, 3, 3, 3]) (by kernel_rfl) (by kernel_rfl) (by kernel_rfl) (by kernel_rfl) (hval 0 23 v0 rfl rfl)
    obtain ⟨z0_0, z0_1, z0_2, z0_3, z0_4, rfl⟩ : ∃ z0_0 z0_1 z0_2 z0_3 z0_4, zs0 = [z0_0, z0_1, z0_2, z0_3, z0_4] := by
      match zs0, zl0 with
      | [z0_0, z0_1, z0_2, z0_3, z0_4], _ => exact ⟨z0_0, z0_1, z0_2, z0_3, z0_4, rfl⟩
    obtain ⟨z1, rfl, z1_1, z1_2⟩ := int_arg (k := .i64) (t := 3) (by kernel_rfl) (hval 1 3 v1 rfl rfl)
    obtain ⟨z2, rfl, z2_1, z2_2⟩ := int_arg (k := .i64) (t := 3) (by kernel_rfl) (hval 2 3 v2 rfl rfl)
    exact calls_of_calla ((fun M hw a b c d e _ x y => audit_twice M hw ⟨a, b, c, d, e⟩ x y) _ (memOf_wf W) z0_0 z0_1 z0_2 z0_3 z0_4 (fun z hz => zr0 z hz) z1 z2) (.cons _ _ _ _ (vr_agg [z0_0, z0_1, z0_2, z0_3, z0_4]) (.cons _ _ _ _ (.val _ rfl) (.cons _ _ _ _ (.val _ rfl) .nil)))

theorem twice_holds : Rows.AuditTwiceSaid :=
  OpenClaim.holds_of_wide 14 Try.f14 rfl rfl rfl rfl rfl rfl rfl ⟨rfl, rfl, rfl, rfl, rfl⟩ rfl rfl rfl rfl rfl (by kernel_rfl) Try.func14 (by kernel_rfl)
    (of_decide_eq_true (by kernel_rfl)) (by unfold Func.isWrapper; first | (rw [if_pos (by decide +kernel)]; kernel_rfl) | (rw [if_neg (by decide +kernel)]; exact ⟨rfl, rfl⟩))
    (fun os started H enc _ => twice_holds_lifted os started H enc)


end Go.Proofs.Ytjffimbigamadaa
