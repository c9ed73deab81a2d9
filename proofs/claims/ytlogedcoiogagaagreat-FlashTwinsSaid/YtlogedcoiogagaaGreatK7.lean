import Derived.Test.YtlogedcoiogagaaGreatK6
set_option linter.unusedSimpArgs false
set_option linter.unusedVariables false
set_option linter.unusedSectionVars false
set_option maxRecDepth 100000
namespace Go.Proofs.YtlogedcoiogagaaGreat
open Go.AM
open Go.ChangeShapes Go.WideShapes Go.RowKit
theorem tact_of{r:List Value}(h:Fits [.i64,.i64,.u8,.i64,.i64,.u8] r):∃ x:TAct,ofVs r=tacC x:=by
 match r,Fits.length h with
 | [v1,v2,v3,v4,v5,v6],_=>
   obtain⟨h1,h2,h3,h4,h5,h6,_⟩:=h
   obtain⟨z1,rfl,_⟩:=h1
   obtain⟨z2,rfl,_⟩:=h2
   obtain⟨b3,rfl⟩:=h3
   obtain⟨z4,rfl,_⟩:=h4
   obtain⟨z5,rfl,_⟩:=h5
   obtain⟨b6,rfl⟩:=h6
   exact⟨⟨z1,z2,b3,z4,z5,b6⟩,rfl⟩
def tactK:List FK:=[.i64,.i64,.u8,.i64,.i64,.u8]
theorem rows_tacts:∀ rows:List (List Value),(∀ r∈rows,Fits tactK r)→∃ xs:List TAct,xs.length=rows.length∧(rows.flatMap fun r=>ofVs r)=xs.flatMap tacC
 | [],_=>⟨[],rfl,rfl⟩
 | r::rows,h=>by
   obtain⟨xs,g1,g2⟩:=rows_tacts rows fun r' hr=>h r' (List.mem_cons_of_mem _ hr)
   obtain⟨a,g4⟩:=tact_of (h r List.mem_cons_self)
   exact⟨a::xs,by rw[List.length_cons,List.length_cons,g1],by rw[List.flatMap_cons,List.flatMap_cons,g2,g4]⟩
theorem tacts_arg{H:Type}{enc:TypeId×Value→H}{P:Program}{W:World}{t e:TypeId}(ht:P.underlying t=some (.slice e))(hl:leafsB P 20 e=some tactK)(hc:P.cellsOf e=tactK.length){base:Nat}{v:Value}{d:DataW H}{ps:List MemPlace}
 (hval:Value.okWide P W .any base t v) (hd:DataW.Trod enc P W 0 (fun _=>true) true t v d ps):
 ∃ (x:AV) (xs:List TAct),VR (injOf W) x v∧TacsAt (memOf W) x xs∧xs.length≤9223372036854775807:=by
 obtain⟨x,rows,h1,h2,h3,h4⟩:=structs_arg ht hl hc (Nat.zero_lt_succ _) hval hd
 obtain⟨xs,g1,g2⟩:=rows_tacts rows h4
 refine⟨x,xs,h1,?_,by rw[g1];exact h3⟩
 unfold TacsAt
 rw[g1,← g2]
 exact h2
theorem flash_twins_all(M:Mem)(hw:M.WF)(bl pg by' sp tr:Int)(hr:∀ y∈[bl,pg,by',sp,tr], -9223372036854775808≤y∧y≤9223372036854775807)(bl2 pg2 by2 sp2 tr2:Int)(hr2:∀ y∈[bl2,pg2,by2,sp2,tr2], -9223372036854775808≤y∧y≤9223372036854775807)
 (x:AV) (fs:List Flt) (hx:FltsAt M x fs) (hl:fs.length≤9223372036854775807) (a:AV) (l:List TAct) (ha:TacsAt M a l) (hll:l.length≤9223372036854775807):
 CallA tb.P 8 [.agg [.val (.int .i64 bl),.val (.int .i64 pg),.val (.int .i64 by'),.val (.int .i64 sp),.val (.int .i64 tr)],.agg [.val (.int .i64 bl2),.val (.int .i64 pg2),.val (.int .i64 by2),.val (.int .i64 sp2),.val (.int .i64 tr2)],x,a] M fun y _=>y= .val (.bool true):=
 flash_twins M hw ⟨bl,pg,by',sp,tr⟩ ⟨bl2,pg2,by2,sp2,tr2⟩ x fs hx hl a l ha hll
end Go.Proofs.YtlogedcoiogagaaGreat
