import Derived.Test.YtlogedcoiogagaaGreatK6
import Derived.Test.YtlogedcoiogagaaGreatRows
set_option linter.unusedSimpArgs false
set_option linter.unusedVariables false
set_option linter.unusedSectionVars false
namespace Go.Proofs.YtlogedcoiogagaaGreat
open Go.AM
open Go.ChangeShapes Go.WideShapes Go.RowKit
theorem Tryz.own:ownKnob Tryz.prog.godebug=none:=by kernel_rfl
theorem Tryz.laidOut:laidOutB Tryz.prog=true:=by kernel_rfl
set_option maxRecDepth 100000 in
theorem trims_holds_lifted(os:Os)(started:os.Started)(H:Type)(enc:TypeId×Value→H):
 ReturnsInHanded {} Tryz.checked os 6 .any (Rows.flashTrimsSpec.pre6 enc Tryz.prog Tryz.f6 Rows.flashTrimsRow.domain false) (Rows.flashTrimsSpec.post enc Tryz.prog Tryz.f6 false true false false):=by
 refine law_lift (C:=Tryz.checked) (f:=6) (fn:=Tryz.f6) (tb:=4) Tryz.own started (by kernel_rfl) Tryz.func6 Tryz.laidOut
  (ChangeSpec.witness6 (enc:=enc) (C:=Tryz.checked) false ⟨#[], #[.agg #[.int .i64 0,.int .i64 0,.int .i64 0,.int .i64 0,.int .i64 0],.int .i64 0,.int .i64 0,.int .u8 0],[]⟩ 8 (by kernel_rfl) (by kernel_rfl) (by kernel_rfl) (by kernel_rfl))
  rfl (fun ds hds=>?_) ?_ (by kernel_rfl) (by kernel_rfl) ?_
 ·have hp:Tryz.f6.params.size=4:=by kernel_rfl
  rw[hp] at hds
  obtain⟨d0,d1,d2,d3,rfl⟩:∃ d0 d1 d2 d3,ds=[d0,d1,d2,d3]:=by
   match ds,hds with
   | [d0,d1,d2,d3],_=>exact⟨d0,d1,d2,d3,rfl⟩
  rfl
 ·have hp:(Tryz.f6.params.toList.all fun t=>Tryz.prog.readableRec t&&decide (t<Tryz.prog.types.size))=true:=by kernel_rfl
  intro t ht
  have:=List.all_eq_true.1 hp t ht
  rw[Bool.and_eq_true,decide_eq_true_eq] at this
  exact this
 ·intro W base args ds ps hval0 hA0
  have hval:∀ (j:Nat) t v,Tryz.f6.params[j]? =some t→args[j]? =some v→Value.okWide Tryz.prog W .any base t v:=hval0
  have hA:DataW.TrodAll enc Tryz.prog W 0 (fun _=>true) true Tryz.f6.params.toList args.toList ds ps:=hA0
  have hp:Tryz.f6.params= #[23,3,3,5]:=by kernel_rfl
  rw[hp] at hA hval
  obtain⟨v0,v1,v2,v3,d0,d1,d2,d3,p0,p1,p2,p3,rfl,rfl,rfl,h0,h1,h2,h3⟩:=trodAll_four hA
  obtain⟨zs0,rfl,zl0,zr0⟩:=ints_agg (t:=23) (ts:=[3,3,3,3,3]) (by kernel_rfl) (by kernel_rfl) (by kernel_rfl) (by kernel_rfl) (hval 0 23 v0 rfl rfl)
  obtain⟨z0_0,z0_1,z0_2,z0_3,z0_4,rfl⟩:∃ z0_0 z0_1 z0_2 z0_3 z0_4,zs0=[z0_0,z0_1,z0_2,z0_3,z0_4]:=by
   match zs0,zl0 with
   | [z0_0,z0_1,z0_2,z0_3,z0_4],_=>exact⟨z0_0,z0_1,z0_2,z0_3,z0_4,rfl⟩
  obtain⟨z1,rfl,z1_1,z1_2⟩:=int_arg (k:= .i64) (t:=3) (by kernel_rfl) (hval 1 3 v1 rfl rfl)
  obtain⟨z2,rfl,z2_1,z2_2⟩:=int_arg (k:= .i64) (t:=3) (by kernel_rfl) (hval 2 3 v2 rfl rfl)
  obtain⟨s3,rfl⟩:=bv_arg (k:= .u8) (n:=8) rfl (by decide) (t:=5) (by kernel_rfl) (hval 3 5 v3 rfl rfl)
  exact calls_of_calla (flash_trims_all _ (memOf_wf W) z0_0 z0_1 z0_2 z0_3 z0_4 (fun z hz=>zr0 z hz) z1 z2 s3) (.cons _ _ _ _ (vr_agg [z0_0,z0_1,z0_2,z0_3,z0_4]) (.cons _ _ _ _ (.val _ rfl) (.cons _ _ _ _ (.val _ rfl) (.cons _ _ _ _ (.val _ rfl) .nil))))
theorem trims_holds:Rows.FlashTrimsSaid:=
 OpenClaim.holds_of_wide 6 Tryz.f6 rfl rfl rfl rfl rfl rfl rfl ⟨rfl,rfl,rfl,rfl,rfl⟩ rfl rfl rfl rfl rfl (by kernel_rfl) Tryz.func6 (by kernel_rfl)
  (of_decide_eq_true (by kernel_rfl)) (by unfold Func.isWrapper;first|(rw[if_pos (by decide +kernel)];kernel_rfl)|(rw[if_neg (by decide +kernel)];exact⟨rfl,rfl⟩))
  (fun os started H enc _=>trims_holds_lifted os started H enc)
end Go.Proofs.YtlogedcoiogagaaGreat
