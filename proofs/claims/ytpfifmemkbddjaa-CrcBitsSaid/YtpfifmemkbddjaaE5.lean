/- CrcBits: for every input the law answers true and leaves its arguments as they read. Without conditions. -/
import Derived.Test.YtpfifmemkbddjaaD5
set_option linter.unusedVariables false
namespace Go.Proofs.Ytpfifmemkbddjaa
open Go.AM
open Go.ChangeShapes Go.WideShapes Go.RowKit
set_option linter.unusedSimpArgs false

theorem Try.own : ownKnob Try.prog.godebug = none := by kernel_rfl
theorem Try.laidOut : laidOutB Try.prog = true := by kernel_rfl

set_option maxRecDepth 100000 in
theorem bits_holds_lifted (os : Os) (started : os.Started) (H : Type) (enc : TypeId × Value → H) :
    ReturnsInHanded {} Try.checked os 5 .any (Rows.crcBitsSpec.pre6 enc Try.prog Try.f5 Rows.crcBitsRow.domain false) (Rows.crcBitsSpec.post enc Try.prog Try.f5 false true false false) := by
  refine law_lift (C := Try.checked) (f := 5) (fn := Try.f5) (tb := 4) Try.own started (by kernel_rfl) Try.func5 Try.laidOut
    (ChangeSpec.witness6 (enc := enc) (C := Try.checked) false ⟨#[], #[.slice none 0 0, .int .i64 0, .bool false], []⟩ 8 (by kernel_rfl) (by kernel_rfl) (by kernel_rfl) (by kernel_rfl))
    rfl (fun ds hds => ?_) ?_ (by kernel_rfl) (by kernel_rfl) ?_
  · have hp : Try.f5.params.size = 3 := by kernel_rfl
    rw [hp] at hds
    obtain ⟨d0, d1, d2, rfl⟩ : ∃ d0 d1 d2, ds = [d0, d1, d2] := by
      match ds, hds with
      | [d0, d1, d2], _ => exact ⟨d0, d1, d2, rfl⟩
    rfl
  · have hp : (Try.f5.params.toList.all fun t => Try.prog.readableRec t && decide (t < Try.prog.types.size)) = true := by kernel_rfl
    intro t ht
    have := List.all_eq_true.1 hp t ht
    rw [Bool.and_eq_true, decide_eq_true_eq] at this
    exact this
  · intro W base args ds ps hval0 hA0
    have hval : ∀ (j : Nat) t v, Try.f5.params[j]? = some t → args[j]? = some v → Value.okWide Try.prog W .any base t v := hval0
    have hA : DataW.TrodAll enc Try.prog W 0 (fun _ => true) true Try.f5.params.toList args.toList ds ps := hA0
    have hp : Try.f5.params = #[22, 3, 4] := by kernel_rfl
    rw [hp] at hA hval
    obtain ⟨v0, v1, v2, d0, d1, d2, p0, p1, p2, rfl, rfl, rfl, h0, h1, h2⟩ := trodAll_three hA
    obtain ⟨x0, l0, g0, g0_1, g0_2⟩ := bytes_arg (t := 22) (e := 5) (by kernel_rfl) (by kernel_rfl) (by kernel_rfl) (hval 0 22 v0 rfl rfl) h0
    obtain ⟨z1, rfl, z1_1, z1_2⟩ := int_arg (k := .i64) (t := 3) (by kernel_rfl) (hval 1 3 v1 rfl rfl)
    obtain ⟨b2, rfl⟩ := bool_arg (t := 4) (by kernel_rfl) (hval 2 4 v2 rfl rfl)
    exact calls_of_calla ((fun M hw x l hx hl z b => crc_bits M hw x l z b hx hl) _ (memOf_wf W) x0 l0 g0_1 g0_2 z1 b2) (.cons _ _ _ _ g0 (.cons _ _ _ _ (.val _ rfl) (.cons _ _ _ _ (.val _ rfl) .nil)))

theorem bits_holds : Rows.CrcBitsSaid :=
  OpenClaim.holds_of_wide 5 Try.f5 rfl rfl rfl rfl rfl rfl rfl ⟨rfl, rfl, rfl, rfl, rfl⟩ rfl rfl rfl rfl rfl (by kernel_rfl) Try.func5 (by kernel_rfl)
    (of_decide_eq_true (by kernel_rfl)) (by unfold Func.isWrapper; first | (rw [if_pos (by decide +kernel)]; kernel_rfl) | (rw [if_neg (by decide +kernel)]; exact ⟨rfl, rfl⟩))
    (fun os started H enc _ => bits_holds_lifted os started H enc)


end Go.Proofs.Ytpfifmemkbddjaa
