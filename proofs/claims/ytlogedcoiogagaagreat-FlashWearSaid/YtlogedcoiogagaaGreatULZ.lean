import Derived.Test.YtlogedcoiogagaaGreatK7
import Derived.Test.YtlogedcoiogagaaGreatRows
set_option linter.unusedSimpArgs false
set_option linter.unusedVariables false
set_option linter.unusedSectionVars false
namespace Go.Proofs.YtlogedcoiogagaaGreat
open Go.AM
open Go.ChangeShapes Go.WideShapes Go.RowKit
theorem Tryz.own:ownKnob Tryz.prog.godebug=none:=by kernel_rfl
theorem Tryz.laidOut:laidOutB Tryz.prog=true:=by kernel_rfl
set_option maxRecDepth 100000 in
theorem wear_holds_lifted(os:Os)(started:os.Started)(H:Type)(enc:TypeId×Value→H):
 ReturnsInHanded {} Tryz.checked os 5 .any (Rows.flashWearSpec.pre6 enc Tryz.prog Tryz.f5 Rows.flashWearRow.domain false) (Rows.flashWearSpec.post enc Tryz.prog Tryz.f5 false true false false):=by
 refine law_lift (C:=Tryz.checked) (f:=5) (fn:=Tryz.f5) (tb:=4) Tryz.own started (by kernel_rfl) Tryz.func5 Tryz.laidOut
  (ChangeSpec.witness6 (enc:=enc) (C:=Tryz.checked) false ⟨#[], #[.agg #[.int .i64 0,.int .i64 0,.int .i64 0,.int .i64 0,.int .i64 0],.slice none 0 0],[]⟩ 8 (by kernel_rfl) (by kernel_rfl) (by kernel_rfl) (by kernel_rfl))
  rfl (fun ds hds=>?_) ?_ (by kernel_rfl) (by kernel_rfl) ?_
 ·have hp:Tryz.f5.params.size=2:=by kernel_rfl
  rw[hp] at hds
  obtain⟨d0,d1,rfl⟩:∃ d0 d1,ds=[d0,d1]:=by
   match ds,hds with
   | [d0,d1],_=>exact⟨d0,d1,rfl⟩
  rfl
 ·have hp:(Tryz.f5.params.toList.all fun t=>Tryz.prog.readableRec t&&decide (t<Tryz.prog.types.size))=true:=by kernel_rfl
  intro t ht
  have:=List.all_eq_true.1 hp t ht
  rw[Bool.and_eq_true,decide_eq_true_eq] at this
  exact this
 ·intro W base args ds ps hval0 hA0
  have hval:∀ (j:Nat) t v,Tryz.f5.params[j]? =some t→args[j]? =some v→Value.okWide Tryz.prog W .any base t v:=hval0
  have hA:DataW.TrodAll enc Tryz.prog W 0 (fun _=>true) true Tryz.f5.params.toList args.toList ds ps:=hA0
  have hp:Tryz.f5.params= #[23,25]:=by kernel_rfl
  rw[hp] at hA hval
  obtain⟨v0,v1,d0,d1,p0,p1,rfl,rfl,rfl,h0,h1⟩:=trodAll_two hA
  obtain⟨zs0,rfl,zl0,zr0⟩:=ints_agg (t:=23) (ts:=[3,3,3,3,3]) (by kernel_rfl) (by kernel_rfl) (by kernel_rfl) (by kernel_rfl) (hval 0 23 v0 rfl rfl)
  obtain⟨z0_0,z0_1,z0_2,z0_3,z0_4,rfl⟩:∃ z0_0 z0_1 z0_2 z0_3 z0_4,zs0=[z0_0,z0_1,z0_2,z0_3,z0_4]:=by
   match zs0,zl0 with
   | [z0_0,z0_1,z0_2,z0_3,z0_4],_=>exact⟨z0_0,z0_1,z0_2,z0_3,z0_4,rfl⟩
  obtain⟨x1,l1,g1,g1_1,g1_2⟩:=i64s_arg (t:=25) (e:=3) (by kernel_rfl) (by kernel_rfl) (by kernel_rfl) (hval 1 25 v1 rfl rfl) h1
  exact calls_of_calla (flash_wear_all _ (memOf_wf W) z0_0 z0_1 z0_2 z0_3 z0_4 (fun z hz=>zr0 z hz) x1 l1 g1_1 g1_2) (.cons _ _ _ _ (vr_agg [z0_0,z0_1,z0_2,z0_3,z0_4]) (.cons _ _ _ _ g1 .nil))
theorem wear_holds:Rows.FlashWearSaid:=
 OpenClaim.holds_of_wide 5 Tryz.f5 rfl rfl rfl rfl rfl rfl rfl ⟨rfl,rfl,rfl,rfl,rfl⟩ rfl rfl rfl rfl rfl (by kernel_rfl) Tryz.func5 (by kernel_rfl)
  (of_decide_eq_true (by kernel_rfl)) (by unfold Func.isWrapper;first|(rw[if_pos (by decide +kernel)];kernel_rfl)|(rw[if_neg (by decide +kernel)];exact⟨rfl,rfl⟩))
  (fun os started H enc _=>wear_holds_lifted os started H enc)
end Go.Proofs.YtlogedcoiogagaaGreat
