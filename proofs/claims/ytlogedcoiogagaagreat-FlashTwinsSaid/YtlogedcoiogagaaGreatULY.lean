import Derived.Test.YtlogedcoiogagaaGreatK7
import Derived.Test.YtlogedcoiogagaaGreatRows
set_option linter.unusedSimpArgs false
set_option linter.unusedVariables false
set_option linter.unusedSectionVars false
namespace Go.Proofs.YtlogedcoiogagaaGreat
open Go.AM
open Go.ChangeShapes Go.WideShapes Go.RowKit
theorem Tryz.own:ownKnob Tryz.prog.godebug=none:=by kernel_rfl
theorem Tryz.laidOut:laidOutB Tryz.prog=true:=by kernel_rfl
set_option maxRecDepth 100000 in
theorem twins_holds_lifted(os:Os)(started:os.Started)(H:Type)(enc:TypeId×Value→H):
 ReturnsInHanded {} Tryz.checked os 8 .any (Rows.flashTwinsSpec.pre6 enc Tryz.prog Tryz.f8 Rows.flashTwinsRow.domain false) (Rows.flashTwinsSpec.post enc Tryz.prog Tryz.f8 false true false false):=by
 refine law_lift (C:=Tryz.checked) (f:=8) (fn:=Tryz.f8) (tb:=4) Tryz.own started (by kernel_rfl) Tryz.func8 Tryz.laidOut
  (ChangeSpec.witness6 (enc:=enc) (C:=Tryz.checked) false ⟨#[], #[.agg #[.int .i64 0,.int .i64 0,.int .i64 0,.int .i64 0,.int .i64 0],.agg #[.int .i64 0,.int .i64 0,.int .i64 0,.int .i64 0,.int .i64 0],.slice none 0 0,.slice none 0 0],[]⟩ 8 (by kernel_rfl) (by kernel_rfl) (by kernel_rfl) (by kernel_rfl))
  rfl (fun ds hds=>?_) ?_ (by kernel_rfl) (by kernel_rfl) ?_
 ·have hp:Tryz.f8.params.size=4:=by kernel_rfl
  rw[hp] at hds
  obtain⟨d0,d1,d2,d3,rfl⟩:∃ d0 d1 d2 d3,ds=[d0,d1,d2,d3]:=by
   match ds,hds with
   | [d0,d1,d2,d3],_=>exact⟨d0,d1,d2,d3,rfl⟩
  rfl
 ·have hp:(Tryz.f8.params.toList.all fun t=>Tryz.prog.readableRec t&&decide (t<Tryz.prog.types.size))=true:=by kernel_rfl
  intro t ht
  have:=List.all_eq_true.1 hp t ht
  rw[Bool.and_eq_true,decide_eq_true_eq] at this
  exact this
 ·intro W base args ds ps hval0 hA0
  have hval:∀ (j:Nat) t v,Tryz.f8.params[j]? =some t→args[j]? =some v→Value.okWide Tryz.prog W .any base t v:=hval0
  have hA:DataW.TrodAll enc Tryz.prog W 0 (fun _=>true) true Tryz.f8.params.toList args.toList ds ps:=hA0
  have hp:Tryz.f8.params= #[23,23,24,59]:=by kernel_rfl
  rw[hp] at hA hval
  obtain⟨v0,v1,v2,v3,d0,d1,d2,d3,p0,p1,p2,p3,rfl,rfl,rfl,h0,h1,h2,h3⟩:=trodAll_four hA
  obtain⟨zs0,rfl,zl0,zr0⟩:=ints_agg (t:=23) (ts:=[3,3,3,3,3]) (by kernel_rfl) (by kernel_rfl) (by kernel_rfl) (by kernel_rfl) (hval 0 23 v0 rfl rfl)
  obtain⟨z0_0,z0_1,z0_2,z0_3,z0_4,rfl⟩:∃ z0_0 z0_1 z0_2 z0_3 z0_4,zs0=[z0_0,z0_1,z0_2,z0_3,z0_4]:=by
   match zs0,zl0 with
   | [z0_0,z0_1,z0_2,z0_3,z0_4],_=>exact⟨z0_0,z0_1,z0_2,z0_3,z0_4,rfl⟩
  obtain⟨zs1,rfl,zl1,zr1⟩:=ints_agg (t:=23) (ts:=[3,3,3,3,3]) (by kernel_rfl) (by kernel_rfl) (by kernel_rfl) (by kernel_rfl) (hval 1 23 v1 rfl rfl)
  obtain⟨z1_0,z1_1,z1_2,z1_3,z1_4,rfl⟩:∃ z1_0 z1_1 z1_2 z1_3 z1_4,zs1=[z1_0,z1_1,z1_2,z1_3,z1_4]:=by
   match zs1,zl1 with
   | [z1_0,z1_1,z1_2,z1_3,z1_4],_=>exact⟨z1_0,z1_1,z1_2,z1_3,z1_4,rfl⟩
  obtain⟨x2,l2,g2,g2_1,g2_2⟩:=flts_arg (t:=24) (e:=72) (by kernel_rfl) (by kernel_rfl) (by kernel_rfl) (hval 2 24 v2 rfl rfl) h2
  obtain⟨x3,l3,g3,g3_1,g3_2⟩:=tacts_arg (t:=59) (e:=64) (by kernel_rfl) (by kernel_rfl) (by kernel_rfl) (hval 3 59 v3 rfl rfl) h3
  exact calls_of_calla (flash_twins_all _ (memOf_wf W) z0_0 z0_1 z0_2 z0_3 z0_4 (fun z hz=>zr0 z hz) z1_0 z1_1 z1_2 z1_3 z1_4 (fun z hz=>zr1 z hz) x2 l2 g2_1 g2_2 x3 l3 g3_1 g3_2) (.cons _ _ _ _ (vr_agg [z0_0,z0_1,z0_2,z0_3,z0_4]) (.cons _ _ _ _ (vr_agg [z1_0,z1_1,z1_2,z1_3,z1_4]) (.cons _ _ _ _ g2 (.cons _ _ _ _ g3 .nil))))
theorem twins_holds:Rows.FlashTwinsSaid:=
 OpenClaim.holds_of_wide 8 Tryz.f8 rfl rfl rfl rfl rfl rfl rfl ⟨rfl,rfl,rfl,rfl,rfl⟩ rfl rfl rfl rfl rfl (by kernel_rfl) Tryz.func8 (by kernel_rfl)
  (of_decide_eq_true (by kernel_rfl)) (by unfold Func.isWrapper;first|(rw[if_pos (by decide +kernel)];kernel_rfl)|(rw[if_neg (by decide +kernel)];exact⟨rfl,rfl⟩))
  (fun os started H enc _=>twins_holds_lifted os started H enc)
end Go.Proofs.YtlogedcoiogagaaGreat
