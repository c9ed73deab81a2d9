import Derived.Test.YtmifiialedlcnaaG18
import Derived.Test.YtmifiialedlcnaaRows
set_option linter.unusedSimpArgs false
set_option linter.unusedVariables false
/- ChipCuts: for every input the law answers true and leaves its arguments as they read. Without conditions. -/
namespace Go.Proofs.Ytmifiialedlcnaa
open Go.AM
open Go.ChangeShapes Go.WideShapes Go.RowKit

theorem Try.own : ownKnob Try.prog.godebug = none := by kernel_rfl
theorem Try.laidOut : laidOutB Try.prog = true := by kernel_rfl

set_option maxRecDepth 100000 in
theorem cuts_holds_lifted (os : Os) (started : os.Started) (H : Type) (enc : TypeId × Value → H) :
    ReturnsInHanded {} Try.checked os 4 .any (Rows.chipCutsSpec.pre6 enc Try.prog Try.f4 Rows.chipCutsRow.domain false) (Rows.chipCutsSpec.post enc Try.prog Try.f4 false true false false) := by
  refine law_lift (C := Try.checked) (f := 4) (fn := Try.f4) (tb := 4) Try.own started (by kernel_rfl) Try.func4 Try.laidOut
    (ChangeSpec.witness6 (enc := enc) (C := Try.checked) false ⟨#[], #[.agg #[.int .i64 0, .int .i64 0, .int .i64 0, .int .i64 0, .int .i64 0], .int .i64 0, .agg #[.int .i64 0, .int .i64 0, .int .u8 0], .bool false], []⟩ 8 (by kernel_rfl) (by kernel_rfl) (by kernel_rfl) (by kernel_rfl))
    rfl (fun ds hds => ?_) ?_ (by kernel_rfl) (by kernel_rfl) ?_
  · have hp : Try.f4.params.size = 4 := by kernel_rfl
    rw [hp] at hds
    obtain ⟨d0, d1, d2, d3, rfl⟩ : ∃ d0 d1 d2 d3, ds = [d0, d1, d2, d3] := by
      match ds, hds with
      | [d0, d1, d2, d3], _ => exact ⟨d0, d1, d2, d3, rfl⟩
    rfl
  · have hp : (Try.f4.params.toList.all fun t => Try.prog.readableRec t && decide (t < Try.prog.types.size)) = true := by kernel_rfl
    intro t ht
    have := List.all_eq_true.1 hp t ht
    rw [Bool.and_eq_true, decide_eq_true_eq] at this
    exact this
  · intro W base args ds ps hval0 hA0
    have hval : ∀ (j : Nat) t v, Try.f4.params[j]? = some t → args[j]? = some v → Value.okWide Try.prog W .any base t v := hval0
    have hA : DataW.TrodAll enc Try.prog W 0 (fun _ => true) true Try.f4.params.toList args.toList ds ps := hA0
    have hp : Try.f4.params = #[23, 3, 42, 4] := by kernel_rfl
    rw [hp] at hA hval
    obtain ⟨v0, v1, v2, v3, d0, d1, d2, d3, p0, p1, p2, p3, rfl, rfl, rfl, h0, h1, h2, h3⟩ := trodAll_four hA
    obtain ⟨zs0, rfl, zl0, zr0⟩ := ints_agg (t := 23) (ts := [3, 3, 3, 3, 3]) (by kernel_rfl) (by kernel_rfl) (by kernel_rfl) (by kernel_rfl) (hval 0 23 v0 rfl rfl)
    obtain ⟨z0_0, z0_1, z0_2, z0_3, z0_4, rfl⟩ : ∃ z0_0 z0_1 z0_2 z0_3 z0_4, zs0 = [z0_0, z0_1, z0_2, z0_3, z0_4] := by
      match zs0, zl0 with
      | [z0_0, z0_1, z0_2, z0_3, z0_4], _ => exact ⟨z0_0, z0_1, z0_2, z0_3, z0_4, rfl⟩
    obtain ⟨z1, rfl, z1_1, z1_2⟩ := int_arg (k := .i64) (t := 3) (by kernel_rfl) (hval 1 3 v1 rfl rfl)
    obtain ⟨z2_0, z2_1, s2, rfl⟩ := cut_agg (t := 42) (a := 3) (b := 3) (c := 5) (by kernel_rfl) (by kernel_rfl) (by kernel_rfl) (by kernel_rfl) (by kernel_rfl) (by kernel_rfl) (hval 2 42 v2 rfl rfl)
    obtain ⟨b3, rfl⟩ := bool_arg (t := 4) (by kernel_rfl) (hval 3 4 v3 rfl rfl)
    exact calls_of_calla ((fun M hw a b c d e _ at' op y f er => chip_cuts M hw ⟨a, b, c, d, e⟩ at' op y f er) _ (memOf_wf W) z0_0 z0_1 z0_2 z0_3 z0_4 (fun z hz => zr0 z hz) z1 z2_0 z2_1 s2 b3) (.cons _ _ _ _ (vr_agg [z0_0, z0_1, z0_2, z0_3, z0_4]) (.cons _ _ _ _ (.val _ rfl) (.cons _ _ _ _ (.agg _ _ (.cons _ _ _ _ (.val _ rfl) (.cons _ _ _ _ (.val _ rfl) (.cons _ _ _ _ (.val _ rfl) .nil)))) (.cons _ _ _ _ (.val _ rfl) .nil))))

theorem cuts_holds : Rows.ChipCutsSaid :=
  OpenClaim.holds_of_wide 4 Try.f4 rfl rfl rfl rfl rfl rfl rfl ⟨rfl, rfl, rfl, rfl, rfl⟩ rfl rfl rfl rfl rfl (by kernel_rfl) Try.func4 (by kernel_rfl)
    (of_decide_eq_true (by kernel_rfl)) (by unfold Func.isWrapper; first | (rw [if_pos (by decide +kernel)]; kernel_rfl) | (rw [if_neg (by decide +kernel)]; exact ⟨rfl, rfl⟩))
    (fun os started H enc _ => cuts_holds_lifted os started H enc)


end Go.Proofs.Ytmifiialedlcnaa
