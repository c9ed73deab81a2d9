import Derived.Test.YtgoehfelpekhcaaGreatDoorB3
import Derived.Test.YtgoehfelpekhcaaGreatDoorK4
import Derived.Test.YtgoehfelpekhcaaGreatDoorRows
import Derived.Test.YtgoehfelpekhcaaGreatDoorCards
import Derived.Test.YtgoehfelpekhcaaGreatDoorTie
set_option linter.unusedSimpArgs false
set_option linter.unusedVariables false
set_option linter.unusedSectionVars false
/- PlayMany: for every number the law answers true, the variables of unicode/utf8 that the row lists being as the program's text lays them. -/
namespace Go.Proofs.YtgoehfelpekhcaaGreatDoor
open Go.AM
open Go.ChangeShapes Go.WideShapes Go.RowKit
set_option maxRecDepth 100000

theorem Tryz.own : ownKnob Tryz.prog.godebug = none := by kernel_rfl
theorem Tryz.laidOut : laidOutB Tryz.prog = true := by kernel_rfl
theorem fact_noInit : Tryz.prog.inits.idxOf? 5 = none := by kernel_rfl
theorem fact_zip (os : Os) (args : Array Value) : (((World.laidAll Tryz.prog os Rows.playManyRow.laid).forCall (fun _ _ => 0) ⟨#[], #[.int .i64 0], []⟩)).Shaped Tryz.prog :=
  World.shaped_of_ZipB (by kernel_rfl) (by kernel_rfl)
theorem fact_ok (os : Os) : Input.okWideB Tryz.prog ((World.laidAll Tryz.prog os Rows.playManyRow.laid).forCall (fun _ _ => 0) ⟨#[], #[.int .i64 0], []⟩) 5 ⟨#[], #[.int .i64 0], []⟩ = true := by kernel_rfl
theorem fact_pre (os : Os) (H : Type) (enc : TypeId × Value → H) : Rows.playManySpec.preB enc Tryz.prog Tryz.f5 [] false ((World.laidAll Tryz.prog os Rows.playManyRow.laid).forCall (fun _ _ => 0) ⟨#[], #[.int .i64 0], []⟩).memory #[.int .i64 0] 8 = true := by kernel_rfl
theorem fact_sized (os : Os) (H : Type) (enc : TypeId × Value → H) : Rows.playManySpec.sizedB enc Tryz.prog Tryz.f5 false ((World.laidAll Tryz.prog os Rows.playManyRow.laid).forCall (fun _ _ => 0) ⟨#[], #[.int .i64 0], []⟩).memory #[.int .i64 0] 8 = true := by kernel_rfl
theorem fact_fits (os : Os) : (World.holding Tryz.prog os ⟨#[], #[], []⟩).layFits Tryz.prog Rows.playManyRow.laid [] = true := by kernel_rfl
theorem fact_ifaces (os : Os) : (World.holding Tryz.prog os ⟨#[], #[], []⟩).layIfaces Tryz.prog Rows.playManyRow.laid (World.laidAll Tryz.prog os Rows.playManyRow.laid) = true := by kernel_rfl
theorem fact_laid (os : Os) : laidMetH Tryz.prog Rows.playManyRow.laid ((World.laidAll Tryz.prog os Rows.playManyRow.laid).forCall (fun _ _ => 0) ⟨#[], #[.int .i64 0], []⟩).memory := by
  rw [MakeChecks.laidMetH_plain _ _ _ (by kernel_rfl)]
  exact laidMet_laidAll _ (fact_fits os) (fact_ifaces os)
theorem fact_read : (Tryz.f5.params.toList.all fun t => Tryz.prog.readableRec t && decide (t < Tryz.prog.types.size)) = true := by kernel_rfl
theorem fact_rt : Tryz.f5.resultTypes = #[4] := by kernel_rfl
theorem fact_b : Tryz.prog.underlying 4 = some .bool := by kernel_rfl
theorem fact_params : Tryz.f5.params = #[3] := by kernel_rfl
theorem fact_int : Tryz.prog.underlying 3 = some (.int .i64) := by kernel_rfl

theorem none_lifted (os : Os) (started : os.Started) (H : Type) (enc : TypeId × Value → H) :
    ReturnsInHanded {} Tryz.checked os 5 .any (fun w args => (Rows.playManySpec.pre enc Tryz.prog Tryz.f5 [] false w args ∧ laidMetH Tryz.prog Rows.playManyRow.laid w) ∧ sizedMet enc Tryz.prog Tryz.f5 (OpenSpec.ofChange Rows.playManySpec) false w args) (Rows.playManySpec.post enc Tryz.prog Tryz.f5 false true false false) := by
  refine law_lift_and (C := Tryz.checked) (f := 5) (fn := Tryz.f5) (tb := 4) (X := fun w _ => laidMetH Tryz.prog Rows.playManyRow.laid w) (fun _ _ _ hh h => h.of_heap hh) Tryz.own started fact_noInit Tryz.func5 Tryz.laidOut
    (ChangeSpec.witness_shaped (enc := enc) (C := Tryz.checked) (os := os) (X := fun w _ => laidMetH Tryz.prog Rows.playManyRow.laid w) false (World.laidAll Tryz.prog os Rows.playManyRow.laid) #[.int .i64 0] 8 (World.laidAll_os _ _ _)
      (fact_zip os #[]) (fact_ok os) (fact_pre os H enc) (fact_sized os H enc) (fact_laid os))
    rfl (fun ds hds => ?_) ?_ fact_rt fact_b ?_
  · rw [fact_params] at hds
    obtain ⟨d0, rfl⟩ : ∃ d0, ds = [d0] := by
      match ds, hds with
      | [d0], _ => exact ⟨d0, rfl⟩
    rfl
  · intro t ht
    have := List.all_eq_true.1 fact_read t ht
    rw [Bool.and_eq_true, decide_eq_true_eq] at this
    exact this
  · intro W base args ds ps hval0 hA0
    have hval : ∀ (j : Nat) t v, Tryz.f5.params[j]? = some t → args[j]? = some v → Value.okWide Tryz.prog W .any base t v := hval0
    have hA : DataW.TrodAll enc Tryz.prog W 0 (fun _ => true) true Tryz.f5.params.toList args.toList ds ps := hA0
    rw [fact_params] at hA hval
    obtain ⟨v0, d0, rfl, rfl, h0⟩ := trodAll_one hA
    obtain ⟨z0, rfl, z0_1, z0_2⟩ := int_arg (k := .i64) (t := 3) fact_int (hval 0 3 v0 rfl rfl)
    exact calls_of_calla (play_many _ z0) (.cons _ _ _ _ (.val _ rfl) .nil)

theorem fact_unfollowed : (Rows.playManyRow.unfollowed == Tryz.prog.unfollowed 5) = true := by kernel_rfl
theorem fact_recurses : (Rows.playManyRow.recurses == Tryz.prog.recurses 5) = true := by kernel_rfl
theorem fact_inPlace : (Rows.playManyRow.inPlace == Tryz.prog.inPlace 5) = true := by kernel_rfl
theorem fact_named : (Rows.playManyRow.named == Tryz.prog.varsNamed 5) = true := by kernel_rfl
theorem fact_maps : mapsRowed Tryz.prog = true := by kernel_rfl
theorem fact_joined : joinedFacts Tryz.prog 5 Tryz.f5 Rows.playManySpec Rows.playManyRow = true := by
  unfold joinedFacts
  rw [fact_unfollowed, fact_recurses, fact_inPlace, fact_named, fact_maps, Tryz.laidOut]
  kernel_rfl
theorem fact_func : Tryz.prog.funcNamed Rows.playManyRow.func = some 5 := by kernel_rfl
theorem fact_inst : Tryz.f5.isInstance Tryz.prog Rows.playManyRow.origin Rows.playManyRow.targs := of_decide_eq_true (by kernel_rfl)
theorem fact_wrap : Tryz.f5.isWrapper Tryz.prog Rows.playManyRow.wrapper Rows.playManyRow.mainSum := by
  unfold Func.isWrapper; first | (rw [if_pos (by decide +kernel)]; kernel_rfl) | (rw [if_neg (by decide +kernel)]; exact ⟨rfl, rfl⟩)

theorem row_holds : Rows.PlayManySaid :=
  OpenClaim.holds_of_wide 5 Tryz.f5 rfl rfl rfl rfl rfl rfl rfl ⟨rfl, rfl, rfl, rfl, rfl⟩ rfl rfl rfl rfl rfl fact_func Tryz.func5 fact_joined fact_inst fact_wrap
    (fun os started H enc _ => none_lifted os started H enc)

theorem fact_wf : Rows.playManyRow.wfByText (OpenSpec.ofChange Rows.playManySpec) = true := by kernel_rfl
theorem fact_main : Tryz.pinned.checked.prog.mainIs = some (true, "f3b811b7b040ba97da9502e4035751494914628256285db917591ca6ce90678a".toList) := by kernel_rfl
theorem fact_looks : false = Tryz.pinned.checked.prog.looks [] := by kernel_rfl
theorem fact_goes : false = Rows.playManyRow.goesBy Tryz.pinned.checked.prog := by kernel_rfl
theorem fact_stand : ([3].all fun u => !Tryz.prog.wantsStandIn u) = true := by kernel_rfl

theorem none_card : Rows.PlayManyCardSaid :=
  Claim7.holds_tied_plain_at .later [] [.data, .pinned] true (true, "f3b811b7b040ba97da9502e4035751494914628256285db917591ca6ce90678a") false row_holds (fun _ h => by cases h) fact_wf (fun _ h => by cases h) playMany_row_tie rfl ⟨rfl, rfl⟩ fact_main rfl
    (fun f fn hf hfn => by
      obtain rfl : f = 5 := Option.some.inj (fact_func.symm.trans hf) |>.symm
      obtain rfl : fn = Tryz.f5 := (Option.some.inj (Tryz.func5.symm.trans hfn)).symm
      exact ⟨fact_looks, fun j t ht => by
        rw [fact_params] at ht
        have hm : t ∈ [3] := by simpa using Array.mem_of_getElem? ht
        exact (show Tryz.prog.wantsStandIn t = false by simpa using List.all_eq_true.1 fact_stand t hm)⟩)
    fact_goes

end Go.Proofs.YtgoehfelpekhcaaGreatDoor
