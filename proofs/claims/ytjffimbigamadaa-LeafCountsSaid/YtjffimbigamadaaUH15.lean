import Derived.Test.YtjffimbigamadaaH15
import Derived.Test.YtjffimbigamadaaRows
set_option linter.unusedSimpArgs false
set_option linter.unusedVariables false
set_option linter.unusedSectionVars false
/- LeafCounts: Count sums to the pages of the blocks that are not bad; Scan's founds are written, whole, in rising order. -/
namespace Go.Proofs.Ytjffimbigamadaa
open Go.AM
open Go.ChangeShapes Go.WideShapes Go.RowKit

theorem Try.own : ownKnob Try.prog.godebug = none := by kernel_rfl
theorem Try.laidOut : laidOutB Try.prog = true := by kernel_rfl

set_option maxRecDepth 100000 in
theorem counts_holds_lifted (os : Os) (started : os.Started) (H : Type) (enc : TypeId × Value → H) :
    ReturnsInHanded {} Try.checked os 10 .any (Rows.leafCountsSpec.pre6 enc Try.prog Try.f10 Rows.leafCountsRow.domain false) (Rows.leafCountsSpec.post enc Try.prog Try.f10 false true false false) := by
  refine law_lift (C := Try.checked) (f := 10) (fn := Try.f10) (tb := 4) Try.own started (by kernel_rfl) Try.func10 Try.laidOut
    (ChangeSpec.witness6 (enc := enc) (C := Try.checked) false ⟨#[], #[.agg #[.int .i64 0, .int .i64 0, .int .i64 0, .int .i64 0, .int .i64 0], .slice none 0 0, .slice none 0 0], []⟩ 8 (by kernel_rfl) (by kernel_rfl) (by kernel_rfl) (by kernel_rfl))
    rfl (fun ds hds => ?_) ?_ (by kernel_rfl) (by kernel_rfl) ?_
  · have hp : Try.f10.params.size = 3 := by kernel_rfl
    rw [hp] at hds
    obtain ⟨d0, d1, d2, rfl⟩ : ∃ d0 d1 d2, ds = [d0, d1, d2] := by
      match ds, hds with
      | [d0, d1, d2], _ => exact ⟨d0, d1, d2, rfl⟩
    rfl
  · have hp : (Try.f10.params.toList.all fun t => Try.prog.readableRec t && decide (t < Try.prog.types.size)) = true := by kernel_rfl
    intro t ht
    have := List.all_eq_true.1 hp t ht
    rw [Bool.and_eq_true, decide_eq_true_eq] at this
    exact this
  · intro W base args ds ps hval0 hA0
    have hval : ∀ (j : Nat) t v, Try.f10.params[j]? = some t → args[j]? = some v → Value.okWide Try.prog W .any base t v := hval0
    have hA : DataW.TrodAll enc Try.prog W 0 (fun _ => true) true Try.f10.params.toList args.toList ds ps := hA0
    have hp : Try.f10.params = #[23, 54, 65] := by kernel_rfl
    rw [hp] at hA hval
    obtain ⟨v0, v1, v2, d0, d1, d2, p0, p1, p2, rfl, rfl, rfl, h0, h1, h2⟩ := trodAll_three hA
    obtain ⟨zs0, rfl, zl0, zr0⟩ := ints_agg (t := 23) (ts := [3, 3, 3, 3, 3]) (by kernel_rfl) (by kernel_rfl) (by kernel_rfl) (by kernel_rfl) (hval 0 23 v0 rfl rfl)
    obtain ⟨z0_0, z0_1, z0_2, z0_3, z0_4, rfl⟩ : ∃ z0_0 z0_1 z0_2 z0_3 z0_4, zs0 = [z0_0, z0_1, z0_2, z0_3, z0_4] := by
      match zs0, zl0 with
      | [z0_0, z0_1, z0_2, z0_3, z0_4], _ => exact ⟨z0_0, z0_1, z0_2, z0_3, z0_4, rfl⟩
    obtain ⟨x1, l1, g1, g1_1, g1_2⟩ := flts_arg (t := 54) (e := 53) (by kernel_rfl) (by kernel_rfl) (by kernel_rfl) (hval 1 54 v1 rfl rfl) h1
    obtain ⟨x2, l2, g2, g2_1⟩ := puts_arg (t := 65) (e := 133) (by kernel_rfl) (by kernel_rfl) (by kernel_rfl) (hval 2 65 v2 rfl rfl) h2
    exact calls_of_calla ((fun M hw a b c d e _ fx fs hfx hfl px ps hps => leaf_counts M hw ⟨a, b, c, d, e⟩ fx fs hfx hfl px ps hps) _ (memOf_wf W) z0_0 z0_1 z0_2 z0_3 z0_4 (fun z hz => zr0 z hz) x1 l1 g1_1 g1_2 x2 l2 g2_1) (.cons _ _ _ _ (vr_agg [z0_0, z0_1, z0_2, z0_3, z0_4]) (.cons _ _ _ _ g1 (.cons _ _ _ _ g2 .nil)))

theorem counts_holds : Rows.LeafCountsSaid :=
  OpenClaim.holds_of_wide 10 Try.f10 rfl rfl rfl rfl rfl rfl rfl ⟨rfl, rfl, rfl, rfl, rfl⟩ rfl rfl rfl rfl rfl (by kernel_rfl) Try.func10 (by kernel_rfl)
    (of_decide_eq_true (by kernel_rfl)) (by unfold Func.isWrapper; first | (rw [if_pos (by decide +kernel)]; kernel_rfl) | (rw [if_neg (by decide +kernel)]; exact ⟨rfl, rfl⟩))
    (fun os started H enc _ => counts_holds_lifted os started H enc)


end Go.Proofs.Ytjffimbigamadaa
