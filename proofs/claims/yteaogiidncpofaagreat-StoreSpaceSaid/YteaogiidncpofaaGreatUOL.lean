import Derived.Test.YteaogiidncpofaaGreatK7
import Derived.Test.YteaogiidncpofaaGreatRows
set_option linter.unusedSimpArgs false
set_option linter.unusedVariables false
set_option linter.unusedSectionVars false
namespace Go.Proofs.YteaogiidncpofaaGreat
open Go.AM
open Go.ChangeShapes Go.WideShapes Go.RowKit
theorem Tryz.own:ownKnob Tryz.prog.godebug=none:=by kernel_rfl
theorem Tryz.laidOut:laidOutB Tryz.prog=true:=by kernel_rfl
set_option maxRecDepth 100000 in
theorem space_holds_lifted(os:Os)(started:os.Started)(H:Type)(enc:TypeId×Value→H):
 ReturnsInHanded {} Tryz.checked os 4 .any (Rows.storeSpaceSpec.pre6 enc Tryz.prog Tryz.f4 Rows.storeSpaceRow.domain false) (Rows.storeSpaceSpec.post enc Tryz.prog Tryz.f4 false true false false):=by
 refine aKO (C:=Tryz.checked) (f:=4) (fn:=Tryz.f4) (tb:=4) Tryz.own started (by kernel_rfl) Tryz.func4 Tryz.laidOut
  (ChangeSpec.witness6 (enc:=enc) (C:=Tryz.checked) false ⟨#[], #[.agg #[.int .i64 0,.int .i64 0,.int .i64 0,.int .i64 0,.int .i64 0],.int .i64 0,.int .u8 0],[]⟩ 8 (by kernel_rfl) (by kernel_rfl) (by kernel_rfl) (by kernel_rfl))
  rfl (fun ds hds=>?_) ?_ (by kernel_rfl) (by kernel_rfl) ?_
 ·have hp:Tryz.f4.params.size=3:=by kernel_rfl
  rw[hp] at hds
  obtain⟨d0,d1,d2,rfl⟩:∃ d0 d1 d2,ds=[d0,d1,d2]:=by
   match ds,hds with
   | [d0,d1,d2],_=>exact⟨d0,d1,d2,rfl⟩
  rfl
 ·have hp:(Tryz.f4.params.toList.all fun t=>Tryz.prog.readableRec t&&decide (t<Tryz.prog.types.size))=true:=by kernel_rfl
  intro t ht
  have:=List.all_eq_true.1 hp t ht
  rw[Bool.and_eq_true,decide_eq_true_eq] at this
  exact this
 ·intro W base args ds ps hval0 hA0
  have hval:∀ (j:Nat) t v,Tryz.f4.params[j]? =some t→args[j]? =some v→Value.okWide Tryz.prog W .any base t v:=hval0
  have hA:DataW.TrodAll enc Tryz.prog W 0 (fun _=>true) true Tryz.f4.params.toList args.toList ds ps:=hA0
  have hp:Tryz.f4.params= #[23,3,5]:=by kernel_rfl
  rw[hp] at hA hval
  obtain⟨v0,v1,v2,d0,d1,d2,p0,p1,p2,rfl,rfl,rfl,h0,h1,h2⟩:=trodAll_three hA
  obtain⟨zs0,rfl,zl0,zr0⟩:=aJ2 (t:=23) (ts:=[3,3,3,3,3]) (by kernel_rfl) (by kernel_rfl) (by kernel_rfl) (by kernel_rfl) (hval 0 23 v0 rfl rfl)
  obtain⟨z0_0,z0_1,z0_2,z0_3,z0_4,rfl⟩:∃ z0_0 z0_1 z0_2 z0_3 z0_4,zs0=[z0_0,z0_1,z0_2,z0_3,z0_4]:=by
   match zs0,zl0 with
   | [z0_0,z0_1,z0_2,z0_3,z0_4],_=>exact⟨z0_0,z0_1,z0_2,z0_3,z0_4,rfl⟩
  obtain⟨z1,rfl,z1_1,z1_2⟩:=aGE (k:= .i64) (t:=3) (by kernel_rfl) (hval 1 3 v1 rfl rfl)
  obtain⟨s2,rfl⟩:=aRj (k:= .u8) (n:=8) rfl (by decide) (t:=5) (by kernel_rfl) (hval 2 5 v2 rfl rfl)
  exact aAg (yL _ (aJe W) z0_0 z0_1 z0_2 z0_3 z0_4 (fun z hz=>zr0 z hz) z1 s2) (.cons _ _ _ _ (aQv [z0_0,z0_1,z0_2,z0_3,z0_4]) (.cons _ _ _ _ (.val _ rfl) (.cons _ _ _ _ (.val _ rfl) .nil)))
theorem space_holds:Rows.StoreSpaceSaid:=
 OpenClaim.holds_of_wide 4 Tryz.f4 rfl rfl rfl rfl rfl rfl rfl ⟨rfl,rfl,rfl,rfl,rfl⟩ rfl rfl rfl rfl rfl (by kernel_rfl) Tryz.func4 (by kernel_rfl)
  (of_decide_eq_true (by kernel_rfl)) (by unfold Func.isWrapper;first|(rw[if_pos (by decide +kernel)];kernel_rfl)|(rw[if_neg (by decide +kernel)];exact⟨rfl,rfl⟩))
  (fun os started H enc _=>space_holds_lifted os started H enc)
end Go.Proofs.YteaogiidncpofaaGreat
