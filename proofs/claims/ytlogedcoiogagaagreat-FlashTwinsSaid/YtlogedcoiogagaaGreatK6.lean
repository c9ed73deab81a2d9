import Derived.Test.YtlogedcoiogagaaGreatA45
import Derived.Test.YtlogedcoiogagaaGreatB3
import Derived.Test.YtlogedcoiogagaaGreatK1
import Derived.Test.YtlogedcoiogagaaGreatK2
import Derived.Test.YtlogedcoiogagaaGreatK3
import Derived.Test.YtlogedcoiogagaaGreatK5
import Derived.Test.YtlogedcoiogagaaGreatQA
set_option linter.unusedSimpArgs false
set_option linter.unusedVariables false
set_option linter.unusedSectionVars false
set_option maxRecDepth 100000
namespace Go.Proofs.YtlogedcoiogagaaGreat
open Go.AM
theorem lay_load{v:Ver}(h:okL v.d v.t.k v.t.p v.t.s v.t.e=true):state (layV v)=1∧tgOf (layV v)=v.t∧(layV v).take ((layV v).length-16)=v.d:=by
 refine⟨laid_state h,?_,?_⟩
 ·have hm:=h
  unfold okL at hm
  rw[Bool.and_eq_true] at hm
  obtain⟨f1,f2,f3,f4⟩:=tail16_fields (c:=more 0#32 (body v.d v.t.k v.t.p v.t.e v.t.e)) hm.2
  unfold tgOf layV
  rw[laid_drop]
  obtain⟨f1,f2,f3,f4⟩:=tail16_fields (c:=more 0#32 (body v.d v.t.k v.t.p v.t.s v.t.e)) hm.2
  rw[f1,f2,f3,f4]
 ·unfold layV
  rw[laid_length,Nat.add_sub_cancel,laid_eq]
  exact List.take_left' rfl
structure Mnt (M:Mem) (p:Nat) (C:Chip) (S:Ps) (A:Adr) (D:Nat) (i:Nat) (P:Mem) (C':Chip) (m:List Fnd) (sq ep:Int):Prop where
 st:Step M P p C C'
 calm:Calm C'
 bs:C'.bs=C.bs
 ops:∃ o:Nat,C'.ops=C.ops+o∧o≤i
 fl:P.get A.f=some (.cells (flC (flOf A { S with seq:=sq,ep:=ep,now:=0,deg:=false })) true)
 mf:P.get A.mf=some (.map (mK m))
 mb:P.get A.mb=some (.map [])
 mp:P.get A.mp=some (.map [])
 ms:P.get A.ms=some (.map [])
 nd:(m.map (·.1)).Nodup
 lnk:∀ q:Fnd,q∈m→∃ (b k:Nat) (v:Ver),q.1=((b:Int),(k:Int))∧b*nG S+k<i∧verAt S b k=some v∧(q.2.k=v.t.k∧q.2.p=v.t.p∧q.2.s=v.t.s∧q.2.e=v.t.e)∧BytesAt P q.2.d v.d∧q.2.d.one=true∧∀ c,inBlk q.2.d c→D≤c
 hav:∀ (b k:Nat) v,verAt S b k=some v→b*nG S+k<i→∃ q,q∈m∧q.1=((b:Int),(k:Int))
 sqb:0≤sq∧sq≤S.seq∧∀ q:Fnd,q∈m→q.2.s≤sq
 epb:0≤ep∧(ep=0∨∃ q:Fnd,q∈m∧q.2.e=ep)∧∀ q:Fnd,q∈m→q.2.e≤ep
theorem Mnt.post{M:Mem}{p:Nat}{C:Chip}{S:Ps}{A:Adr}{D i:Nat}{P N:Mem}{C':Chip}{m:List Fnd}{sq ep:Int}(h:Mnt M p C S A D i P C' m sq ep)(hk:Keep P N []):Mnt M p C S A D i N C' m sq ep:=by
 have hw:=h.st.wf
 have g:∀ {c:Nat} {r:Row},P.get c=some r→N.get c=some r:=fun hg=>hk.get hw hg (by simp)
 refine⟨h.st.post hk,h.calm,h.bs,h.ops,g h.fl,g h.mf,g h.mb,g h.mp,g h.ms,h.nd,fun q hq=>?_,h.hav,h.sqb,h.epb⟩
 obtain⟨b,k,v,e1,e2,e3,e4,e5,e6,e7⟩:=h.lnk q hq
 exact⟨b,k,v,e1,e2,e3,e4,SlAt.keep0 e5 hw hk,e6,e7⟩
theorem Mnt.skip{M:Mem}{p:Nat}{C:Chip}{S:Ps}{A:Adr}{D i:Nat}{P:Mem}{C':Chip}{m:List Fnd}{sq ep:Int}(h:Mnt M p C S A D i P C' m sq ep)(hno:∀ (b k:Nat) v,verAt S b k=some v→b*nG S+k≠i):Mnt M p C S A D (i+1) P C' m sq ep:=by
 obtain⟨o,h1,h2⟩:=h.ops
 refine⟨h.st,h.calm,h.bs,⟨o,h1,by omega⟩,h.fl,h.mf,h.mb,h.mp,h.ms,h.nd,fun q hq=>?_,fun b k v hv hlt=>h.hav b k v hv (by have:=hno b k v hv;omega),h.sqb,h.epb⟩
 obtain⟨b,k,v,e1,e2,e3⟩:=h.lnk q hq
 exact⟨b,k,v,e1,by omega,e3⟩
theorem num_inj{n a b c d:Nat}(hb:b<n)(hd:d<n)(h:a*n+b=c*n+d):a=c∧b=d:=by
 have h1:(a*n+b)/n=a:=by rw[Nat.mul_comm,Nat.mul_add_div (by omega),Nat.div_eq_of_lt hb,Nat.add_zero]
 have h2:(c*n+d)/n=c:=by rw[Nat.mul_comm,Nat.mul_add_div (by omega),Nat.div_eq_of_lt hd,Nat.add_zero]
 have:a=c:=by rw[← h1,← h2,h]
 subst this
 exact⟨rfl,by omega⟩
theorem blk_of{C:Chip}{S:Ps}(hr:CRel C S)(hi:PInv S){M:Mem}{p:Nat}(h:ChipAt M p C){b:Nat}(hb:b<nB S):∃ B X,C.bs[b]? =some B∧S.x[b]? =some X∧(∀ j v,X.v[j]? =some v→pageB B (rawN C.g) j=layV v)∧∀ j,X.v.length≤j→j<nG S→pageB B (rawN C.g) j=List.replicate (rawN C.g) 255#8:=by
 have hl:C.bs.length=nB S:=by rw[h.len,hr.g];rfl
 obtain⟨X,e1,_,_,_,e5,e6⟩:=hr.blk b _ (List.getElem?_eq_getElem (by omega:b<C.bs.length))
 exact⟨_,X,List.getElem?_eq_getElem (by omega),e1,e5,e6⟩
theorem f_mount1(M:Mem)(hw:M.WF)(p:Nat)(C:Chip)(S:Ps)(h:ChipAt M p C)(hr:CRel C S)(hi:PInv S)(ho:S.ops≤1000000000){Q:AV→Mem→Prop}
 (hQ:∀ (A:Adr) (N:Mem) (C':Chip) (m:List Fnd) (sq ep:Int) (D:Nat),A.p=p→A.ft=foot p C→A.fsA=C.fsA→A.ext=[]→M.next≤A.mf→A.mb=A.mf+1→A.mp=A.mf+2→A.ms=A.mf+3→A.f=A.mf+4→D=A.mf+5→Mnt M p C S A D (nP C.g) N C' m sq ep→
  CallA tb.P 47 [.ptr A.f 0,i64 (-1)] N fun y118 M119=>CallA tb.P 46 [y118] M119 fun y120 M121=>bindO (eLen tb false 95 y120 M121) fun y122=>zI .i64 y122.1 fun z123=>∃ J124:Int→Nat→Mem→Prop,(∃ n125:Nat,J124 (0:Int) n125 M121)∧
 ∀ (_:Nat→Option AV) (z126:Int) (n127:Nat) (M128:Mem),J124 z126 n127 M128→
 (condB (decide (z126<z123)) (bindO (eIA tb 95 y120 (.val (.int .i64 z126)) M128) fun y129=>zP y129.1 fun p130 o131=>bindO (eLd tb 99 (.ptr p130 o131) M128) fun y132=>∃ (z133:Int) (z134:Int) (z135:Int) (z136:Int) (z137:Int) (z138:Int),y132.1=
 (.agg [(.val (.int .i64 z133)),(.val (.int .i64 z134)),(.val (.int .i64 z135)),(.val (.int .i64 z136)),(.val (.int .i64 z137)),(.val (.int .i64 z138))])∧
 (letP (M128.new (.cells [(.val (.int .i64 0)),(.val (.int .i64 0)),(.val (.int .i64 0)),(.val (.int .i64 0)),(.val (.int .i64 0)),(.val (.int .i64 0))] true)) fun M139=>bindO (eSt tb 99 (.ptr M128.next 0) (.agg [(.val (.int .i64 z133)),(.val (.int .i64 z134)),(.val (.int .i64 z135)),(.val (.int .i64 z136)),(.val (.int .i64 z137)),(.val (.int .i64 z138))]) M139) fun y140=>bindO (eLd tb 80 (.ptr A.f 7) y140.2) fun y141=>bindO (eLd tb 3 (.ptr M128.next 3) y140.2) fun y142=>zI .i64 y142.1 fun z143=>bindO (eLd tb 79 (.ptr A.f 6) y140.2) fun y144=>bindO (eLd tb 85 (.ptr M128.next 0) y140.2) fun y145=>∃ (z146:Int) (z147:Int),y145.1=
 (.agg [(.val (.int .i64 z146)),(.val (.int .i64 z147))])∧
 (bindO (eLk tb 79 y144.1 (.agg [(.val (.int .i64 z146)),(.val (.int .i64 z147))]) false y140.2) fun y148=>∃ (z149:Int) (z150:Int) (z151:Int) (z152:Int) (x153:AV),y148.1=
 (.agg [(.val (.int .i64 z149)),(.val (.int .i64 z150)),(.val (.int .i64 z151)),(.val (.int .i64 z152)),x153])∧
 (bindO (eMU tb 80 y141.1 (.val (.int .i64 z143)) x153 y140.2) fun y154=>∃ k155:Nat,k155<n127∧
 (J124 (iAdd .i64 z126 1) k155 y154.2))))) (CallA tb.P 47 [(.ptr A.f 0),(.val (.int .i64 (-1)))] M128 fun y156 M157=>CallA tb.P 48 [y156] M157 fun y158 M159=>bindO (eLen tb false 95 y158 M159) fun y160=>zI .i64 y160.1 fun z161=>∃ J162:Int→Nat→Mem→Prop,(∃ n163:Nat,J162 (0:Int) n163 M159)∧
 ∀ (_:Nat→Option AV) (z164:Int) (n165:Nat) (M166:Mem),J162 z164 n165 M166→(condB (decide (z164<z161)) (letP (fun (M185:Mem)=>∃ k187:Nat,k187<n165∧
 (J162 (iAdd .i64 z164 1) k187 M185)) fun K186=>bindO (eIA tb 95 y158 (.val (.int .i64 z164)) M166) fun y167=>zP y167.1 fun p168 o169=>bindO (eLd tb 99 (.ptr p168 o169) M166) fun y170=>∃ (z171:Int) (z172:Int) (z173:Int) (z174:Int) (z175:Int) (z176:Int),y170.1=
 (.agg [(.val (.int .i64 z171)),(.val (.int .i64 z172)),(.val (.int .i64 z173)),(.val (.int .i64 z174)),(.val (.int .i64 z175)),(.val (.int .i64 z176))])∧
 (letP (M166.new (.cells [(.val (.int .i64 0)),(.val (.int .i64 0)),(.val (.int .i64 0)),(.val (.int .i64 0)),(.val (.int .i64 0)),(.val (.int .i64 0))] true)) fun M177=>bindO (eSt tb 99 (.ptr M166.next 0) (.agg [(.val (.int .i64 z171)),(.val (.int .i64 z172)),(.val (.int .i64 z173)),(.val (.int .i64 z174)),(.val (.int .i64 z175)),(.val (.int .i64 z176))]) M177) fun y178=>bindO (eLd tb 3 (.ptr M166.next 2) y178.2) fun y179=>zI .i64 y179.1 fun z180=>condB (z180 !=
 (3:Int)) (bindO (eLd tb 81 (.ptr A.f 9) y178.2) fun y181=>bindO (eLd tb 3 (.ptr M166.next 3) y178.2) fun y182=>zI .i64 y182.1 fun z183=>bindO (eMU tb 81 y181.1 (.val (.int .i64 z183)) (.val (.bool true)) y178.2) fun y184=>K186 y184.2) (K186 y178.2))) (CallA tb.P 49 [(.ptr A.f 0)] M166 fun y188 M189=>zI .i64 y188 fun z190=>Q (.tup [(.ptr A.f 0),(.val (.int .i64 0))]) M189))))):
  CallA tb.P 12 [.ptr p 0] M Q:=by
 have hmay:mayG C.g=true:=h.may
 obtain⟨hn1,hnP,_,hpg0,hpg4,hpg8,_,_⟩:=nP_bnd hmay
 have hnGg:nG S=C.g.pg.toNat:=by unfold nG;rw[← hr.g]
 have hnBg:nB S=C.g.bl.toNat:=by unfold nB;rw[← hr.g]
 refine F12_ok ?_
 unfold F12
 refine bindO_i nil_eq ?_
 simp only[zB_bool]
 refine condB_i (fun h=>by simp at h) (fun _=>?_)
 refine (c_on M hw p C h).mono ?_
 rintro y M4 ⟨rfl,hM4⟩
 rw[hM4,hr.calm.off]
 simp only[zB_bool,Bool.not_false,Bool.not_true,condB_false]
 refine (c_geo M hw p C h).mono ?_
 rintro y M7 ⟨rfl,hk7⟩
 refine⟨_,_,_,_,_,rfl,?_⟩
 have h7:=h.keep hw hk7
 refine letP_i fun M13 hM13=>?_
 have e13:M13=M7.new (.map []):=hM13
 have hk13:Keep M7 M13 []:=by rw[e13];exact Keep.new hk7.wf _
 have g13:M13.get M7.next=some (.map []):=by rw[e13];exact get_new _ _
 have n13:M13.next=M7.next+1:=by rw[e13];rfl
 clear hM13 e13
 refine letP_i fun M14 hM14=>?_
 have e14:M14=M13.new (.map []):=hM14
 have hk14:Keep M13 M14 []:=by rw[e14];exact Keep.new hk13.wf _
 have g14:M14.get M13.next=some (.map []):=by rw[e14];exact get_new _ _
 have n14:M14.next=M13.next+1:=by rw[e14];rfl
 clear hM14 e14
 refine letP_i fun M15 hM15=>?_
 have e15:M15=M14.new (.map []):=hM15
 have hk15:Keep M14 M15 []:=by rw[e15];exact Keep.new hk14.wf _
 have g15:M15.get M14.next=some (.map []):=by rw[e15];exact get_new _ _
 have n15:M15.next=M14.next+1:=by rw[e15];rfl
 clear hM15 e15
 refine letP_i fun M16 hM16=>?_
 have e16:M16=M15.new (.map []):=hM16
 have hk16:Keep M15 M16 []:=by rw[e16];exact Keep.new hk15.wf _
 have g16:M16.get M15.next=some (.map []):=by rw[e16];exact get_new _ _
 have n16:M16.next=M15.next+1:=by rw[e16];rfl
 clear hM16 e16
 have hbd:evBuild tb 83 [(0,.ptr p 0),(1,geoA C.g),(2,.map M7.next),(3,.map M13.next),(4,.map M14.next),(5,.map M15.next)]=some (.agg (flC ⟨.ptr p 0,C.g,M7.next,M13.next,M14.next,M15.next,0,0,0,false⟩)):=by
  unfold evBuild
  rw[ty83]
  rfl
 refine bindO_i (eBd_some hbd) ?_
 refine⟨_,_,_,_,_,_,_,_,_,_,_,_,_,_,rfl,?_⟩
 obtain⟨A,hA⟩:∃ A:Adr,A=⟨M16.next,p,M7.next,M13.next,M14.next,M15.next,foot p C,C.fsA,[]⟩:=⟨_,rfl⟩
 have hAf:M16.next=A.f:=by rw[hA]
 have hAm:M7.next=A.mf:=by rw[hA]
 have hAb:M13.next=A.mb:=by rw[hA]
 have hAp:M14.next=A.mp:=by rw[hA]
 have hAs:M15.next=A.ms:=by rw[hA]
 have hfl0:flC ⟨.ptr p 0,C.g,M7.next,M13.next,M14.next,M15.next,0,0,0,false⟩=flC (flOf A { S with seq:=0,ep:=0,now:=0,deg:=false }):=by rw[hA,hr.g];rfl
 refine letP_i fun M32 hM32=>?_
 have e32:M32=M16.new (.cells (flC (flOf A { S with seq:=0,ep:=0,now:=0,deg:=false })) true):=by rw[← hfl0];exact hM32
 have hk32:Keep M16 M32 []:=by rw[e32];exact Keep.new hk16.wf _
 have g32:M32.get M16.next=some (.cells (flC (flOf A { S with seq:=0,ep:=0,now:=0,deg:=false })) true):=by rw[e32];exact get_new _ _
 have n32:M32.next=M16.next+1:=by rw[e32];rfl
 clear hM32 e32
 refine letP_i fun M33 hM33=>?_
 have e33:M33=M32.new (.cells [i64 0,i64 0] true):=hM33
 have hk33:Keep M32 M33 []:=by rw[e33];exact Keep.new hk32.wf _
 have g33:M33.get M32.next=some (.cells [i64 0,i64 0] true):=by rw[e33];exact get_new _ _
 clear hM33 e33
 have hn7:M.next≤M7.next:=hk7.nxt
 have hKa:=hk7.trans0 (hk13.trans0 (hk14.trans0 (hk15.trans0 (hk16.trans0 (hk32.trans0 hk33)))))
 have m1:=(hk14.trans0 (hk15.trans0 (hk16.trans0 (hk32.trans0 hk33)))).get hk13.wf g13 (by simp)
 have m2:=(hk15.trans0 (hk16.trans0 (hk32.trans0 hk33))).get hk14.wf g14 (by simp)
 have m3:=(hk16.trans0 (hk32.trans0 hk33)).get hk15.wf g15 (by simp)
 have m4:=(hk32.trans0 hk33).get hk16.wf g16 (by simp)
 have m5:=hk33.get hk32.wf g32 (by simp)
 have hst:=place_stE (M:=M33) (b:=M32.next) 0 0 g33 rfl
 refine bindO_i hst ?_
 have hkp:Keep M (M33.put M32.next (.cells [i64 0,i64 0] true)) []:=keep_put_new hKa (by omega) (hk33.wf _ _ g33) _
 have hfo:∀ c∈foot p C,c<M.next:=fun c hm=>h.lt hw c hm
 rw[hAf] at m5 n32 ⊢
 rw[hAm] at m1 hn7 n13
 rw[hAb] at m2 n14
 rw[hAp] at m3 n15
 rw[hAs] at m4 n16
 rw[hAf] at n16
 have hQ':=hQ A
 have hseq0:=hi.seq
 refine⟨fun x b n P=>∃ (C':Chip) (m:List Fnd) (sq ep:Int) (a i:Nat) (u v:Int),x= .ptr a 0∧P.get a=some (.cells [i64 u,i64 v] true)∧M32.next≤a∧i≤nP C.g∧n=nP C.g-i∧Mnt M p C S A M32.next i P C' m sq ep∧((b=true∧i<nP C.g∧u=plB C.g i∧v=plK C.g i)∨(b=false∧i=nP C.g)),?_,?_⟩
 ·have hP:∀ (c:Nat) (r:Row),c<M32.next→M33.get c=some r→(M33.put M32.next (.cells [i64 0,i64 0] true)).get c=some r:=fun c r hlt hg=>by rw[Mem.get_put,if_neg (by omega)];exact hg
  refine⟨nP C.g,C,[],0,0,M32.next,0,0,0,rfl,by rw[Mem.get_put,if_pos rfl],Nat.le_refl _,Nat.zero_le _,rfl,⟨Step.of0 hw h hkp,hr.calm,rfl,⟨0,by omega,Nat.le_refl _⟩,hP _ _ (by omega) m5,hP _ _ (by omega) m1,hP _ _ (by omega) m2,hP _ _ (by omega) m3,hP _ _ (by omega) m4,List.nodup_nil,fun q hq=>by simp at hq,fun b k v hv hlt=>by omega,⟨Int.le_refl _,hseq0.1,fun q hq=>by simp at hq⟩,⟨Int.le_refl _,.inl rfl,fun q hq=>by simp at hq⟩⟩,.inl ⟨rfl,hn1,?_,?_⟩⟩
  ·simp[plB]
  ·simp[plK]
 rintro _ x b n P ⟨C',m,sq,ep,a,i,u,v,rfl,ha,hal,hile,rfl,hm,hcase⟩
 have hg':C'.g=C.g:=hm.st.g
 refine condB_i (fun hb1=>?_) (fun hb0=>?_)
 ·obtain⟨_,hi',rfl,rfl⟩:b=true∧i<nP C.g∧u=plB C.g i∧v=plK C.g i:=by
   rcases hcase with hx|⟨hx,_⟩
   ·exact hx
   ·rw[hb1] at hx;cases hx
  obtain⟨hisG,hpB,hpK,hnum⟩:=pl_is hmay hi'
  have hverAt:∀ (b k:Nat) w,verAt S b k=some w→b*nG S+k=i→b=plB C.g i∧k=plK C.g i:=fun b k w hv e=>by
   have hk:=verAt_used hv
   have hpg:=hi.pgs b
   rw[hnGg] at e hpg
   exact num_inj (by omega) hpK (by omega)
  have hnum':plB C.g i*nG S+plK C.g i=i:=by rw[hnGg];exact hnum
  refine letP_i fun K96 hK96=>?_
  have next:∀ (N:Mem) (D:Chip) (m':List Fnd) (sq' ep':Int),Mnt M p C S A M32.next (i+1) N D m' sq' ep'→N.get a=some (.cells [i64 (plB C.g i:Int),i64 (plK C.g i:Int)] true)→M32.next≤N.next→K96 N:=by
   intro N D m' sq' ep' hmN ga hnn
   rw[hK96]
   obtain⟨_,_,l2⟩:=place_ld ga
   refine bindO_i (eLd_some l2) ?_
   refine⟨_,_,rfl,?_⟩
   refine letP_i fun M100 h100=>?_
   have e100:M100=N.new (.cells [i64 0,i64 0] true):=h100
   have hk100:Keep N M100 []:=by rw[e100];exact Keep.new hmN.st.wf _
   have g100:M100.get N.next=some (.cells [i64 0,i64 0] true):=by rw[e100];exact get_new _ _
   clear h100 e100
   refine bindO_i (place_stE (plB C.g i) (plK C.g i) g100 rfl) ?_
   have hk101:Keep N (M100.put N.next (.cells [i64 (plB C.g i:Int),i64 (plK C.g i:Int)] true)) []:=keep_put_new hk100 (Nat.le_refl _) (hk100.wf _ _ g100) _
   have g101:(M100.put N.next (.cells [i64 (plB C.g i:Int),i64 (plK C.g i:Int)] true)).get N.next=some (.cells [i64 (plB C.g i:Int),i64 (plK C.g i:Int)] true):=by rw[Mem.get_put,if_pos rfl]
   revert hk101 g101
   generalize M100.put N.next (.cells [i64 (plB C.g i:Int),i64 (plK C.g i:Int)] true)=M101
   intro hk101 g101
   have hm101:=hmN.post hk101
   have l40:eLd tb 23 (.ptr A.f 1) M101=some (geoA C.g,M101):=by
    have:=eLd_some (T:=tb) (ld_agg (n:=5) (o:=1) ty23 rfl rfl hm101.fl (by simp[flC]))
    rw[this,hr.g]
    rfl
   simp only
   refine bindO_i l40 ?_
   refine⟨_,_,_,_,_,rfl,?_⟩
   refine bindO_i (eLd_some (place_ld g101).2.2) ?_
   refine⟨_,_,rfl,?_⟩
   refine (c_next M101 hk101.wf C.g hmay i hi').mono ?_
   rintro y M112 ⟨hk112,hy⟩
   have g112:=hk112.get hk101.wf g101 (by simp)
   have hkN:=hk101.trans0 hk112
   have fin:∀ x' y':Int,Keep N (M112.put N.next (.cells [i64 x',i64 y'] true)) []:=fun x' y'=>keep_put_new hkN (Nat.le_refl _) (hk112.wf _ _ g112) _
   rcases hy with⟨hi1,rfl⟩|⟨hi1,rfl⟩
   ·refine⟨_,_,_,rfl,?_⟩
    refine bindO_i (place_stE _ _ g112 rfl) ?_
    exact⟨nP C.g-(i+1),by omega,D,m',sq',ep',N.next,i+1,_,_,rfl,by rw[Mem.get_put,if_pos rfl],hnn,by omega,rfl,hmN.post (fin _ _),.inl ⟨rfl,hi1,rfl,rfl⟩⟩
   ·refine⟨_,_,_,rfl,?_⟩
    refine bindO_i (place_stE _ _ g112 rfl) ?_
    exact⟨nP C.g-(i+1),by omega,D,m',sq',ep',N.next,i+1,_,_,rfl,by rw[Mem.get_put,if_pos rfl],hnn,by omega,rfl,hmN.post (fin _ _),.inr ⟨rfl,hi1⟩⟩
  clear hK96
  refine bindO_i (place_fa a) ?_
  simp only[zP_ptr]
  refine bindO_i (eLd_some (place_ld ha).1) ?_
  simp only[i64,zI_int]
  refine (c_badOf P hm.st.wf p C' hm.st.at' _).mono ?_
  rintro y M47 ⟨rfl,hk47⟩
  simp only[zB_bool]
  have hltP:M32.next≤P.next:=Nat.le_of_lt (Nat.lt_of_le_of_lt hal (hm.st.wf _ _ ha))
  have hm47:=hm.post hk47
  have ha47:=hk47.get hm.st.wf ha (by simp)
  refine condB_i (fun hbad=>?_) (fun _=>?_)
  ·rw[hm.st.fs,hr.fs] at hbad
   have hu0:=hi.bad (plB C.g i) hbad
   refine next M47 C' m sq ep (hm47.skip fun b k w hv e=>?_) ha47 (Nat.le_trans hltP hk47.nxt)
   obtain⟨rfl,rfl⟩:=hverAt b k w hv e
   have:=verAt_used hv
   omega
  refine bindO_i (eLd_some (place_ld ha47).2.2) ?_
  refine⟨_,_,rfl,?_⟩
  refine (c_load M47 hm47.st.wf p C' hm47.st.at' _ _).mono ?_
  rintro y M53 ⟨ux,rfl,hux,fux,s53⟩
  refine⟨_,_,_,_,_,_,rfl,?_⟩
  obtain⟨rd1,rd2,rd3⟩:=calm_rd hm.calm (i:=i) (by rw[hg'];exact hmay) (by rw[hg'];exact hi')
  rw[hg'] at rd1 rd2 rd3
  rw[pgI_same hg' hm.bs] at rd2
  rw[rd1,rd2] at hux ⊢
  obtain⟨B,X,b1,b2,b3,b4⟩:=blk_of hr hi h (b:=plB C.g i) (by omega)
  have hpgI:pgI C i=pageB B (rawN C.g) (plK C.g i):=by unfold pgI;rw[b1]
  have hft:foot p C'=foot p C:=hm.st.foot
  have s53':Step M M53 p C (rdC C' (plB C.g i) (plK C.g i)):=hm47.st.trans s53
  have hAfM:M.next≤A.mf:=hn7
  have k53:∀ (c:Nat) (r:Row),M.next≤c→M47.get c=some r→M53.get c=some r:=fun c r hc' hg=>step_get s53 hm47.st.wf hg (fun hmm=>by rw[hft] at hmm;have:=hfo c hmm;omega)
  have hrs:=rdC_same C' (plB C.g i) (plK C.g i)
  have hops:∃ o':Nat,(rdC C' (plB C.g i) (plK C.g i)).ops=C.ops+o'∧o'≤i+1:=by
   obtain⟨o,ho1,ho2⟩:=hm.ops
   have hCo:=hr.ops
   unfold rdC
   split
   ·rw[hm.calm.bg.2.1]
    refine⟨o+1,?_,by omega⟩
    show iAdd .i64 C'.ops 1=_
    rw[ib (by omega)]
    omega
   ·exact⟨o,ho1,by omega⟩
  have hm53:Mnt M p C S A M32.next i M53 C' m sq ep→True:=fun _=>trivial
  have datK:∀ q:Fnd,q∈m→∀ d,BytesAt M47 q.2.d d→(∀ c,inBlk q.2.d c→M32.next≤c)→BytesAt M53 q.2.d d:=fun q hq d hd hc=>SlAt.keep hd hm47.st.wf s53.keep fun c hcc hmm=>by
   rw[hft] at hmm
   have:=hfo c hmm
   have:=hc c hcc
   omega
  refine letP_i fun M60 h60=>?_
  have e60:M60=M53.new (.cells (tgC tg0) true):=h60
  have hk60:Keep M53 M60 []:=by rw[e60];exact Keep.new s53.wf _
  have g60:M60.get M53.next=some (.cells (tgC tg0) true):=by rw[e60];exact get_new _ _
  clear h60 e60 hm53
  generalize hT:lkT 0 (pgI C i)=T at*
  refine bindO_i (tg_st T g60 rfl) ?_
  have hk61:Keep M53 (M60.put M53.next (.cells (tgC T) true)) []:=keep_put_new hk60 (Nat.le_refl _) (hk60.wf _ _ g60) _
  have g61:(M60.put M53.next (.cells (tgC T) true)).get M53.next=some (.cells (tgC T) true):=by rw[Mem.get_put,if_pos rfl]
  revert hk61 g61
  generalize M60.put M53.next (.cells (tgC T) true)=M61
  intro hk61 g61
  have k61:∀ (c:Nat) (r:Row),M.next≤c→M47.get c=some r→M61.get c=some r:=fun c r hc' hg=>hk61.get s53.wf (k53 _ _ hc' hg) (by simp)
  have hMle:∀ c:Nat,A.mf≤c→M.next≤c:=fun c hc=>Nat.le_trans hn7 hc
  have hm61:Mnt M p C S A M32.next i M61 (rdC C' (plB C.g i) (plK C.g i)) m sq ep→True:=fun _=>trivial
  clear hm61
  have hst61:=s53'.post hk61
  have hbs61:(rdC C' (plB C.g i) (plK C.g i)).bs=C.bs:=hrs.2.2.trans hm.bs
  have fl61:=k61 _ _ (hMle _ (by omega)) hm47.fl
  have mf61:=k61 _ _ (hMle _ (Nat.le_refl _)) hm47.mf
  have mb61:=k61 _ _ (hMle _ (by omega)) hm47.mb
  have mp61:=k61 _ _ (hMle _ (by omega)) hm47.mp
  have ms61:=k61 _ _ (hMle _ (by omega)) hm47.ms
  have ha61:=k61 _ _ (by omega) ha47
  have hn61:M32.next≤M61.next:=Nat.le_trans hltP (Nat.le_trans hk47.nxt (Nat.le_trans s53.keep.nxt hk61.nxt))
  have lnk61:∀ q:Fnd,q∈m→∃ (b k:Nat) (v:Ver),q.1=((b:Int),(k:Int))∧b*nG S+k<i∧verAt S b k=some v∧(q.2.k=v.t.k∧q.2.p=v.t.p∧q.2.s=v.t.s∧q.2.e=v.t.e)∧BytesAt M61 q.2.d v.d∧q.2.d.one=true∧∀ c,inBlk q.2.d c→M32.next≤c:=fun q hq=>by
   obtain⟨b,k,w,e1,e2,e3,e4,e5,e6,e7⟩:=hm47.lnk q hq
   exact⟨b,k,w,e1,e2,e3,e4,SlAt.keep0 (datK q hq _ e5 e7) s53.wf hk61,e6,e7⟩
  refine letP_i fun K94 hK94=>?_
  simp only
  cases hvv:X.v[plK C.g i]? with
  | some w=>
    have hver:verAt S (plB C.g i) (plK C.g i)=some w:=verAt_iff.2 ⟨X,b2,hvv⟩
    have htag:=hi.tag _ _ _ hver
    have hpage:pgI C i=layV w:=hpgI.trans (b3 _ _ hvv)
    obtain⟨l1,l2,l3⟩:=lay_load htag.1
    have hld:ldE 0 (pgI C i)=0:=by unfold ldE;rw[if_pos rfl,hpage,l1];rfl
    have hTw:T=w.t:=by rw[← hT,hpage];unfold lkT;rw[if_pos ⟨rfl,l1⟩,l2]
    have hDw:lkD 0 (pgI C i)=w.d:=by rw[hpage];unfold lkD;rw[if_pos ⟨rfl,l1⟩,l3]
    rw[hDw] at hux
    subst hTw
    rw[hld]
    simp only[beq_self_eq_true,condB_true]
    have hd0:0<w.d.length:=by have:=(okL_may htag.1).1;omega
    have hux61:BytesAt M61 ux w.d:=SlAt.keep0 hux.at s53.wf hk61
    have fux':∀ c,inBlk ux c→M32.next≤c:=fun c hc=>by
     have h1:=fux c hc
     have h2:=hk47.nxt
     omega
    have hux1:ux.one=true∧∃ b' o' n' c' e',ux= .sl b' o' n' c' e':=by
     rcases hux with⟨rfl,he⟩|⟨b',he,_⟩
     ·rw[he] at hd0;simp at hd0
     ·rw[he];exact⟨rfl,_,_,_,_,_,rfl⟩
    refine bindO_i (eLd_some (ld_cell ty79 rfl fl61 (o:=6) (v:= .map A.mf) rfl)) ?_
    refine bindO_i (eLd_some (place_ld ha61).2.2) ⟨_,_,rfl,?_⟩
    refine bindO_i (eLd_some (tg_ld g61)) ⟨_,_,_,_,rfl,?_⟩
    have hbd2:eBd tb 94 [(0,tgA w.t),(1,ux)] M61=some (pgA ⟨w.t.k,w.t.p,w.t.s,w.t.e,ux⟩,M61):=by
     obtain⟨_,b',o',n',c',e',hsl⟩:=hux1
     refine eBd_some ?_
     unfold evBuild
     rw[ty94,hsl]
     rfl
    refine bindO_i hbd2 ⟨_,_,_,_,_,rfl,?_⟩
    have hno:∀ q∈m,q.1≠((plB C.g i:Int),(plK C.g i:Int)):=fun q hq e=>by
     obtain⟨b',k',w',e1,e2,e3,_⟩:=lnk61 q hq
     rw[e] at e1
     injection e1 with e1 e1'
     have h1:plB C.g i=b':=by omega
     have h2:plK C.g i=k':=by omega
     rw[← h1,← h2,hnum'] at e2
     omega
    obtain⟨m',p1,p2,p3,_⟩:=putG mt_found (show M61.get A.mf=some (.map (mG plA pgA m)) from mf61) hm.nd ((plB C.g i:Int),(plK C.g i:Int)) (⟨w.t.k,w.t.p,w.t.s,w.t.e,ux⟩:Pg)
    refine bindO_i p1 ?_
    have hmfl:A.mf<M61.next:=hst61.wf _ _ mf61
    have kp:Keep M61 (M61.put A.mf (.map (mG plA pgA m'))) [A.mf]:=Keep.put hst61.wf hmfl _
    have hne:∀ c,c≠A.mf→∀ r,M61.get c=some r→(M61.put A.mf (.map (mG plA pgA m'))).get c=some r:=fun c hc r hg=>by rw[Mem.get_put,if_neg hc];exact hg
    have fl77:=hne _ (by omega) _ fl61
    have g77:=hne _ (fun e=>by have:=s53.keep.nxt;have:=hk47.nxt;omega) _ g61
    have mf77:(M61.put A.mf (.map (mG plA pgA m'))).get A.mf=some (.map (mK m')):=by rw[Mem.get_put,if_pos rfl];rfl
    have mb77:=hne _ (by omega) _ mb61
    have mp77:=hne _ (by omega) _ mp61
    have ms77:=hne _ (by omega) _ ms61
    have ha77:=hne _ (by omega) _ ha61
    have n77:(M61.put A.mf (.map (mG plA pgA m'))).next=M61.next:=rfl
    generalize M61.put A.mf (.map (mG plA pgA m'))=M77 at*
    have hflg:∀ (sq ep:Int) (N:Mem),N.get A.f=some (.cells (flC (flOf A { S with seq:=sq,ep:=ep,now:=0,deg:=false })) true)→eLd tb 3 (.ptr A.f 10) N=some (.val (.int .i64 sq),N)∧eLd tb 3 (.ptr A.f 11) N=some (.val (.int .i64 ep),N):=fun sq ep N hg=>⟨eLd_some (ld_cell ty3 rfl hg rfl),eLd_some (ld_cell ty3 rfl hg rfl)⟩
    refine bindO_i (hflg _ _ _ fl77).1 ?_
    simp only[zI_int]
    refine bindO_i (eLd_some (ld_cell ty3 rfl g77 (o:=2) (v:=i64 w.t.s) rfl)) ?_
    simp only[i64,zI_int]
    refine bindO_i (max_int _ _ _) ?_
    simp only[zI_int]
    refine bindO_i (hflg _ _ _ fl77).2 ?_
    simp only[zI_int]
    refine bindO_i (eLd_some (ld_cell ty3 rfl g77 (o:=3) (v:=i64 w.t.e) rfl)) ?_
    simp only[i64,zI_int]
    refine bindO_i (max_int _ _ _) ?_
    simp only[zI_int]
    refine bindO_i (eSt_some (st_cell ty3 rfl rfl fl77 (by simp[flC]))) ?_
    have es1:(flC (flOf A { S with seq:=sq,ep:=ep,now:=0,deg:=false })).set 10 (.val (.int .i64 (max sq w.t.s)))=flC (flOf A { S with seq:=max sq w.t.s,ep:=ep,now:=0,deg:=false }):=rfl
    rw[es1]
    have hAflt:A.f<M77.next:=kp.wf _ _ fl77
    have kf1:Keep M77 (M77.put A.f (.cells (flC (flOf A { S with seq:=max sq w.t.s,ep:=ep,now:=0,deg:=false })) true)) [A.f]:=Keep.put kp.wf hAflt _
    have fl78:(M77.put A.f (.cells (flC (flOf A { S with seq:=max sq w.t.s,ep:=ep,now:=0,deg:=false })) true)).get A.f=some (.cells (flC (flOf A { S with seq:=max sq w.t.s,ep:=ep,now:=0,deg:=false })) true):=by rw[Mem.get_put,if_pos rfl]
    have h53f:M53.next≠A.f:=fun e=>by have:=s53.keep.nxt;have:=hk47.nxt;omega
    have g78:(M77.put A.f (.cells (flC (flOf A { S with seq:=max sq w.t.s,ep:=ep,now:=0,deg:=false })) true)).get M53.next=some (.cells (tgC w.t) true):=by rw[Mem.get_put,if_neg h53f];exact g77
    have n78:(M77.put A.f (.cells (flC (flOf A { S with seq:=max sq w.t.s,ep:=ep,now:=0,deg:=false })) true)).next=M77.next:=rfl
    generalize M77.put A.f (.cells (flC (flOf A { S with seq:=max sq w.t.s,ep:=ep,now:=0,deg:=false })) true)=M78 at*
    refine⟨bindO_i (eLd_some (ld_cell ty3 rfl g78 (o:=3) (v:=i64 w.t.e) rfl)) rfl,?_⟩
    refine bindO_i (eSt_some (st_cell ty3 rfl rfl fl78 (by simp[flC]))) ?_
    have es2:(flC (flOf A { S with seq:=max sq w.t.s,ep:=ep,now:=0,deg:=false })).set 11 (.val (.int .i64 (max ep w.t.e)))=flC (flOf A { S with seq:=max sq w.t.s,ep:=max ep w.t.e,now:=0,deg:=false }):=rfl
    rw[es2]
    have kf2:Keep M78 (M78.put A.f (.cells (flC (flOf A { S with seq:=max sq w.t.s,ep:=max ep w.t.e,now:=0,deg:=false })) true)) [A.f]:=Keep.put kf1.wf (by omega) _
    have fl79:(M78.put A.f (.cells (flC (flOf A { S with seq:=max sq w.t.s,ep:=max ep w.t.e,now:=0,deg:=false })) true)).get A.f=some (.cells (flC (flOf A { S with seq:=max sq w.t.s,ep:=max ep w.t.e,now:=0,deg:=false })) true):=by rw[Mem.get_put,if_pos rfl]
    have n79:(M78.put A.f (.cells (flC (flOf A { S with seq:=max sq w.t.s,ep:=max ep w.t.e,now:=0,deg:=false })) true)).next=M78.next:=rfl
    generalize M78.put A.f (.cells (flC (flOf A { S with seq:=max sq w.t.s,ep:=max ep w.t.e,now:=0,deg:=false })) true)=M79 at*
    rw[hK94]
    dsimp only
    have kall:Keep M61 M79 [A.mf,A.f]:=(kp.trans kf1 (fun c hc _=>by simp at hc;simp[hc]) (fun c hc _=>by simp at hc;simp[hc])).trans kf2 (fun _ h _=>h) (fun c hc _=>by simp at hc;simp[hc])
    have oth:∀ c,c≠A.mf→c≠A.f→∀ r,M61.get c=some r→M79.get c=some r:=fun c h1 h2 r hg=>kall.get hst61.wf hg (by simp[h1,h2])
    have mf79:M79.get A.mf=some (.map (mK m')):=(kf1.trans kf2 (fun _ h _=>h) (fun _ h _=>h)).get kp.wf mf77 (by simp;omega)
    have hdat:∀ (x:AV) (d:Dat),BytesAt M61 x d→(∀ c,inBlk x c→M32.next≤c)→BytesAt M79 x d:=fun x d hx hc=>SlAt.keep hx hst61.wf kall fun c hcc hmm=>by
     have:=hc c hcc
     simp at hmm
     omega
    have st79:Step M M79 p C (rdC C' (plB C.g i) (plK C.g i)):=by
     have k1:=hst61.at'.keepS hst61.wf kall fun c hc=>by
      have hcA:A.mf≤c∧c≤A.f:=by simp at hc;omega
      refine⟨fun hmm=>?_,fun hmm=>?_⟩
      ·rw[hst61.foot] at hmm
       have:=hfo c hmm
       omega
      ·rw[hst61.fsA] at hmm
       have:=SlAt.blk_lt h.flt hw hmm
       omega
     refine⟨k1,hst61.keep.trans kall (fun _ h _=>h) (fun c hc hlt=>?_),hst61.foot,hst61.fsA,hst61.fs,hst61.g⟩
     have hcA:A.mf≤c∧c≤A.f:=by simp at hc;omega
     omega
    refine next M79 _ m' (max sq w.t.s) (max ep w.t.e) ⟨st79,rd3,hbs61,hops,fl79,mf79,oth _ (by omega) (by omega) _ mb61,oth _ (by omega) (by omega) _ mp61,oth _ (by omega) (by omega) _ ms61,p2,fun q hq=>?_,fun b k v hv hlt=>?_,?_,?_⟩ (oth _ (by omega) (by omega) _ ha61) (by omega)
    ·rcases (p3 q).1 hq with rfl|⟨hq,_⟩
     ·exact⟨plB C.g i,plK C.g i,w,rfl,by omega,hver,⟨rfl,rfl,rfl,rfl⟩,hdat _ _ hux61 fux',hux1.1,fux'⟩
     ·obtain⟨b,k,w',e1,e2,e3,e4,e5,e6,e7⟩:=lnk61 q hq
      exact⟨b,k,w',e1,by omega,e3,e4,hdat _ _ e5 e7,e6,e7⟩
    ·by_cases e:b*nG S+k=i
     ·obtain⟨rfl,rfl⟩:=hverAt b k v hv e
      exact⟨_,(p3 _).2 (.inl rfl),rfl⟩
     ·obtain⟨q,hq,e1⟩:=hm.hav b k v hv (by omega)
      exact⟨q,(p3 _).2 (.inr ⟨hq,hno q hq⟩),e1⟩
    ·obtain⟨s1,s2,s3⟩:=hm.sqb
     have s4:=hi.sq.le _ _ _ hver
     refine⟨by omega,by omega,fun q hq=>?_⟩
     rcases (p3 q).1 hq with rfl|⟨hq,_⟩
     ·exact Int.le_max_right _ _
     ·exact Int.le_trans (s3 q hq) (Int.le_max_left _ _)
    ·obtain⟨s1,s2,s3⟩:=hm.epb
     refine⟨by omega,?_,fun q hq=>?_⟩
     ·by_cases e:ep≤w.t.e
      ·exact .inr ⟨_,(p3 _).2 (.inl rfl),by show w.t.e=_;omega⟩
      ·have e':max ep w.t.e=ep:=by omega
       rw[e']
       rcases s2 with s2|⟨q,hq,s2⟩
       ·exact .inl s2
       ·exact .inr ⟨q,(p3 _).2 (.inr ⟨hq,hno q hq⟩),s2⟩
     ·rcases (p3 q).1 hq with rfl|⟨hq,_⟩
      ·exact Int.le_max_right _ _
      ·exact Int.le_trans (s3 q hq) (Int.le_max_left _ _)
  | none=>
    have hlen:X.v.length≤plK C.g i:=by
     rw[List.getElem?_eq_none_iff] at hvv
     exact hvv
    have hpage:pgI C i=List.replicate (rawN C.g) 255#8:=hpgI.trans (b4 _ hlen (by omega))
    have hraw:40≤rawN C.g∧rawN C.g≤80:=by
     have:=mayG_iff.1 hmay
     unfold rawN
     omega
    have hld:ldE 0 (pgI C i)=5:=by unfold ldE;rw[if_pos rfl,hpage,state_blank hraw.1 hraw.2];rfl
    rw[hld]
    refine condB_i (fun h5=>by simp at h5) (fun _=>?_)
    refine condB_i (fun _=>?_) (fun h5=>by simp at h5)
    rw[hK94]
    have hm61:Mnt M p C S A M32.next i M61 (rdC C' (plB C.g i) (plK C.g i)) m sq ep→Mnt M p C S A M32.next (i+1) M61 (rdC C' (plB C.g i) (plK C.g i)) m sq ep:=fun hx=>hx.skip fun b k w' hv e=>by
     obtain⟨rfl,rfl⟩:=hverAt b k w' hv e
     obtain⟨X',x1,x2⟩:=verAt_iff.1 hv
     rw[b2] at x1
     injection x1 with x1
     subst x1
     rw[hvv] at x2;cases x2
    refine next M61 _ m sq ep ⟨hst61,rd3,hbs61,hops,fl61,mf61,mb61,mp61,ms61,hm.nd,fun q hq=>?_,fun b k v hv hlt=>?_,hm.sqb,hm.epb⟩ ha61 hn61
    ·obtain⟨b,k,w',e1,e2,e3⟩:=lnk61 q hq
     exact⟨b,k,w',e1,by omega,e3⟩
    ·refine hm.hav b k v hv ?_
     by_cases e:b*nG S+k=i
     ·obtain⟨rfl,rfl⟩:=hverAt b k v hv e
      obtain⟨X',x1,x2⟩:=verAt_iff.1 hv
      rw[b2] at x1
      injection x1 with x1
      subst x1
      rw[hvv] at x2;cases x2
     ·omega
 ·obtain⟨_,rfl⟩:b=false∧i=nP C.g:=by
   rcases hcase with⟨hx,_⟩|hx
   ·rw[hb0] at hx;cases hx
   ·exact hx
  refine hQ A P C' m sq ep M32.next (by rw[hA]) (by rw[hA]) (by rw[hA]) (by rw[hA]) hn7 (by omega) (by omega) (by omega) (by omega) (by omega) hm
set_option maxRecDepth 100000
theorem mt_stale:MT 81 3 4 i64 unA (bv false):=
 ⟨⟨_,_,_,ty81,rfl,ty3,ty4,rfl⟩,mt_page.eq,mt_page.ok,fun a=>⟨_,rfl,by simp[sameV,sameScalar]⟩⟩
theorem FR.stepX{A:Adr}{M1 M2:Mem}{S1:Ps}{C1:Chip}{m1:List Fnd}{c0:Nat}(hr1:FR A M1 S1 C1 m1)(hk1:Keep M1 M2 [c0])(h1:c0∈A.av)(h2:c0∉A.wr):FR A M2 S1 C1 m1:=by
 refine hr1.keepS hk1 fun c hc=>?_
 rw[List.mem_singleton] at hc
 subst hc
 refine⟨h2,fun hm=>hr1.fsx _ hm h1,fun q hq hm=>?_⟩
 obtain⟨_,_,_,_,_,_,_,_,e6⟩:=hr1.lnk q hq
 exact e6 _ hm h1
structure Mtd (T:List Nat) (M:Mem) (p:Nat) (C:Chip) (S:Ps) (B:Int→Option Dat) (A:Adr) (N:Mem) (S':Ps):Prop where
 ap:A.p=p
 ft:A.ft=foot p C
 fsA:A.fsA=C.fsA
 ext:A.ext=T
 new:M.next≤A.mf
 adr:A.mb=A.mf+1∧A.mp=A.mf+2∧A.ms=A.mf+3∧A.f=A.mf+4
 keep:Keep M N (foot p C)
 x:S'.x=S.x∧S'.g=S.g∧S'.fs=S.fs∧S'.now=0
 deg:S'.deg= !decide ((lostN S:Int)≤S.g.sp)
 ops:S.ops≤S'.ops∧S'.ops≤S.ops+nB S*nG S
 ep:(∀ b k v,verAt S b k=some v→v.t.e≤S'.ep)∧(S'.ep=0∨∃ b k v,verAt S b k=some v∧v.t.e=S'.ep)
 fr:∃ C m,FR A N S' C m
 pend:MpOk N A A.mp [] (fun _=>none)
 base:∃ bm,MpOk N A A.mb bm (fun n=>(B n).map some)
 stale:∃ es,N.get A.ms=some (.map es)∧((∀ b k v,verAt S b k=some v→v.t.e≤lastX S)→es=[])
theorem f_mount(M:Mem)(hw:M.WF)(p:Nat)(C:Chip)(S:Ps)(h:ChipAt M p C)(hr:CRel C S)(hi:PInv S)(ho:S.ops≤1000000000){B:Int→Option Dat}(hB:BaseOk S B)(hneg:∀ p:Int,p<0→B p=none){T:List Nat}(hT:∀ c∈T,c<M.next∧¬ inBlk C.fsA c):
 CallA tb.P 12 [.ptr p 0] M fun y N=>∃ A S',y= .tup [.ptr A.f 0,i64 0]∧Mtd T M p C S B A N S':=by
 refine f_mount1 M hw p C S h hr hi ho ?_
 intro A0 N C' m sq ep D hAp hAft hAfs hAe hnew hAb hApn hAs hAf hD hm
 obtain⟨A,rfl,hAe2⟩:∃ A:Adr,A0={ A with ext:=[] }∧A.ext=T:=⟨{ A0 with ext:=T },by cases A0;simp only at hAe;subst hAe;rfl,rfl⟩
 replace hm:Mnt M p C S A D _ N C' m sq ep:=⟨hm.st,hm.calm,hm.bs,hm.ops,hm.fl,hm.mf,hm.mb,hm.mp,hm.ms,hm.nd,hm.lnk,hm.hav,hm.sqb,hm.epb⟩
 dsimp only at hAp hAft hAfs hnew hAb hApn hAs hAf hD ⊢
 clear hAe
 have hAe:=hAe2
 have hmay:mayG C.g=true:=h.may
 have hnGg:nG S=C.g.pg.toNat:=by unfold nG;rw[← hr.g]
 have hnBg:nB S=C.g.bl.toNat:=by unfold nB;rw[← hr.g]
 have hnPe:nP C.g=nB S*nG S:=by unfold nP;rw[hnGg,hnBg]
 obtain⟨hn1,hnP,_,hpg0,hpg4,hpg8,_,_⟩:=nP_bnd hmay
 have hfo:∀ c∈foot p C,c<M.next:=fun c hmm=>h.lt hw c hmm
 obtain⟨o,ho1,ho2⟩:=hm.ops
 have hseq0:=hi.seq
 have hbk:∀ b k v,verAt S b k=some v→b<nB S∧k<nG S∧b*nG S+k<nP C.g:=fun b k v hv=>by
  have hu:=verAt_used hv
  have hpg:=hi.pgs b
  obtain⟨X,x1,_⟩:=verAt_iff.1 hv
  have hbl:=(List.getElem?_eq_some_iff.1 x1).1
  rw[hi.len] at hbl
  refine⟨hbl,by omega,?_⟩
  rw[hnPe]
  have:(b+1)*nG S≤nB S*nG S:=Nat.mul_le_mul_right _ hbl
  rw[Nat.add_mul,Nat.one_mul] at this
  omega
 have hfnd:∀ b k v,verAt S b k=some v→∃ q,q∈m∧q.1=((b:Int),(k:Int))∧q.2.s=v.t.s∧q.2.e=v.t.e:=fun b k v hv=>by
  obtain⟨q,hq,e⟩:=hm.hav b k v hv (hbk b k v hv).2.2
  obtain⟨b',k',w,e1,_,e3,e4,_⟩:=hm.lnk q hq
  rw[e] at e1
  injection e1 with e1 e1'
  have h1:b=b':=by omega
  have h2:k=k':=by omega
  subst h1 h2
  rw[hv] at e3
  injection e3 with e3
  subst e3
  exact⟨q,hq,e,e4.2.2.1,e4.2.2.2⟩
 obtain⟨S1,hS1⟩:∃ S1:Ps,S1={ S with seq:=sq,ep:=ep,now:=0,deg:=false,ops:=C'.ops }:=⟨_,rfl⟩
 have hCo:C.ops=S.ops:=hr.ops
 have hi1:PInv S1:=by
  subst hS1
  refine⟨hi.may,hi.len,hi.pgs,⟨fun b k v hv=>?_,hi.sq.one⟩,fun b k v hv=>?_,hi.bad,⟨hm.sqb.1,?_⟩,fun b X hX=>?_⟩
  ·obtain⟨q,hq,_,e1,_⟩:=hfnd b k v hv
   show v.t.s≤sq
   rw[← e1];exact hm.sqb.2.2 q hq
  ·obtain⟨q,hq,_,_,e1⟩:=hfnd b k v hv
   obtain⟨a1,a2,a3,a4,a5⟩:=hi.tag b k v hv
   refine⟨a1,a2,a3,a4,?_⟩
   show v.t.e≤ep
   rw[← e1];exact hm.epb.2.2 q hq
  ·show sq≤C'.ops
   have:=hm.sqb.2.1
   omega
  ·obtain⟨a1,a2,a3,a4⟩:=hi.cnt b X hX
   show 0≤X.w∧X.w≤C'.ops∧0≤X.n∧X.n≤C'.ops
   omega
 have hrawe:rawN C'.g=rawN C.g:=by rw[hm.st.g]
 have hrel1:CRel C' S1:=by
  subst hS1
  refine⟨hm.st.g.trans hr.g,hm.st.fs.trans hr.fs,hm.calm,rfl,fun b B' hB'=>?_⟩
  rw[hm.bs] at hB'
  obtain⟨X,x1,x2,x3,x4,x5,x6⟩:=hr.blk b B' hB'
  exact⟨X,x1,x2,x3,x4,by rw[hrawe];exact x5,fun j h1 h2=>by rw[hrawe];exact x6 j h1 h2⟩
 have hall:∀ c,c∈A.av→c<M.next∨(A.mf≤c∧c<D):=fun c hc=>by
  simp only[Adr.av,Adr.all,hAe,List.mem_append,List.mem_cons] at hc
  rcases hc with (rfl|rfl|rfl|rfl|rfl|hc)|hc
  rotate_right
  ·exact .inl (hT c hc).1
  ·right;omega
  ·right;omega
  ·right;omega
  ·right;omega
  ·right;omega
  ·left;rw[hAft] at hc;exact hfo c hc
 have hdis:A.all.Nodup:=by
  unfold Adr.all
  have hft:∀ c,A.mf≤c→c∉A.ft:=fun c hc hmm=>by rw[hAft] at hmm;have:=hfo c hmm;omega
  simp only[List.nodup_cons,List.mem_cons,not_or]
  refine⟨⟨by omega,by omega,by omega,by omega,hft _ (by omega)⟩,⟨by omega,by omega,by omega,hft _ (by omega)⟩,⟨by omega,by omega,hft _ (by omega)⟩,⟨by omega,hft _ (by omega)⟩,hft _ (by omega),by rw[hAft];exact h.nd⟩
 have hR:FR A N S1 C' m:=by
  refine⟨hm.st.wf,hi1,by rw[hS1];exact hm.fl,by rw[hAp];exact hm.st.at',by rw[hAp,hAft];exact hm.st.foot,by rw[hAfs];exact hm.st.fsA,hrel1,hm.mf,hm.nd,fun q hq=>?_,fun b k v hv=>?_,hdis,fun c hc hmm=>?_⟩
  ·obtain⟨b,k,v,e1,_,e3,e4,e5,e6,e7⟩:=hm.lnk q hq
   refine⟨b,k,v,e1,by rw[hS1];exact e3,e4,e5,e6,fun c hc hmm=>?_⟩
   have:=e7 c hc
   rcases hall c hmm with h1|h1
   ·omega
   ·omega
  ·rw[hS1] at hv
   obtain⟨q,hq,e,_⟩:=hfnd b k v hv
   exact⟨q,hq,e⟩
  ·rw[hAfs] at hc
   have hlt:=SlAt.blk_lt h.flt hw hc
   simp only[Adr.av,Adr.all,hAe,List.mem_append,List.mem_cons] at hmm
   rcases hmm with (rfl|rfl|rfl|rfl|rfl|hmm)|hmm
   rotate_right
   ·exact (hT c hmm).2 hc
   ·omega
   ·omega
   ·omega
   ·omega
   ·omega
   ·rw[hAft] at hmm;exact h.fsx c hc hmm
 have hB1:BaseOk S1 B:=by rw[hS1];exact hB.now 0
 obtain⟨⟨w1,w2,w3⟩,w4,w5,w6⟩:=Adr.maps hdis
 have hT1:∀ c∈[A.mb],c∈A.av:=fun c hc=>by rw[List.mem_singleton] at hc;rw[hc];exact av_mp.2.1
 have hT3:∀ c∈[A.ms],c∈A.av:=fun c hc=>by rw[List.mem_singleton] at hc;rw[hc];exact av_mp.2.2
 have hNn:D≤N.next:=by have:=hm.st.wf _ _ hm.fl;omega
 refine (j_list hR (-1)).mono ?_
 rintro y M119 ⟨l,hl,hy,hk119,fy⟩
 have hmem:=hR.mem_fds hl
 have hlen:l.length≤160:=by
  have:=hl.length_eq
  rw[List.length_map] at this
  have:=List.length_filter_le (fun q:Fnd=>q.1.1 != -1) m
  have:=hR.few
  omega
 have hR119:=hR.post hk119
 have hnwl:(nwF l).length≤1000:=by
  have hok:=nwF_ok l
  have h1:((nwF l).map (·.1)).length≤(l.map fun f=>f.t.p).length:=nodup_le hok.nd fun c hc=>by
   obtain⟨q,hq,rfl⟩:=List.mem_map.1 hc
   obtain⟨s1,_,s3,_⟩:=hok.snd q hq
   exact List.mem_map.2 ⟨q.2,s1,s3⟩
  rw[List.length_map,List.length_map] at h1
  omega
 have hrng:∀ f∈l,inI64 f.t.p:=fun f hf=>by
  obtain⟨b,k,v,hv,rfl⟩:=Go.Proofs.YtlogedcoiogagaaGreat.mem_fds.1 ((hmem f).1 hf)
  have:=okL_may (hi1.tag b k v hv).1
  unfold inI64
  simp only
  omega
 refine (r_all M119 hk119.wf y l hy.at (by omega) hrng hnwl).mono ?_
 rintro y2 M121 ⟨ps,hps,_,hy2,hk121,fy2⟩
 have hR121:=hR119.post hk121
 have hk121':=hk119.trans0 hk121
 have hfm:=fun f=>all_mem hi1 hmem hps f
 have hl'len:((ps.map (ofF (nwF l))).filter fun f=>decide (f.t.k=1)).length≤1000000:=by
  refine Nat.le_trans (List.length_filter_le _ _) ?_
  have:=hps.length_eq
  rw[List.length_map] at this
  rw[List.length_map,this]
  omega
 generalize ((ps.map (ofF (nwF l))).filter fun f=>decide (f.t.k=1))=l' at hy2 hfm hl'len
 refine bindO_i (eLen_some hy2.at.len) ?_
 simp only[zI_int]
 have hmb121:M121.get A.mb=some (.map []):=hk121'.get hm.st.wf hm.mb (by simp)
 have hmp121:M121.get A.mp=some (.map []):=hk121'.get hm.st.wf hm.mp (by simp)
 have hms121:M121.get A.ms=some (.map []):=hk121'.get hm.st.wf hm.ms (by simp)
 have hN121:N.next≤M121.next:=hk121'.nxt
 obtain⟨Bj,hBj⟩:∃ Bj:Nat→Int→Option (Option Dat),∀ j p,Bj j p=if ((l'.take j).any fun f=>f.t.p==p)=true then (B p).map some else none:=⟨_,fun _ _=>rfl⟩
 have hy2b:∀ c,inBlk y2 c→c∉[A.mb]:=fun c hc hmm=>by
  rw[List.mem_singleton] at hmm
  have:=fy2 c hc
  have:=hk119.nxt
  omega
 refine⟨fun z n Q=>∃ (j:Nat) (bm:List (Int×AV)),z=j∧n=l'.length-j∧j≤l'.length∧Keep M121 Q [A.mb]∧MpOk Q A A.mb bm (Bj j),
  ⟨_,0,[],rfl,rfl,Nat.zero_le _,Keep.refl hR121.wf,⟨hmb121,List.nodup_nil,fun q hq=>by simp at hq,fun n x hx=>by rw[hBj] at hx;simp at hx⟩⟩,?_⟩
 rintro _ z n Q ⟨j,bm,rfl,rfl,hj,hkQ,hbQ⟩
 have hRQ:=hR121.stepX hkQ av_mp.2.1 w1
 have hyQ:FdsAt Q y2 l':=SlAt.keep hy2.at hR121.wf hkQ hy2b
 refine condB_i (fun hlt=>?_) (fun hge=>?_)
 ·have hlt:j<l'.length:=Int.ofNat_lt.1 (of_decide_eq_true hlt)
  obtain⟨b1,o1,a1,a2,_⟩:=hyQ.all hlt
  obtain⟨b,k,v,hx,hbest,hk1⟩:=(hfm l'[j]).1 (List.getElem_mem hlt)
  refine bindO_i (a1 Q) ?_
  rw[zP_ptr]
  refine bindO_i a2 ⟨_,_,_,_,_,_,rfl,?_⟩
  refine letP_i fun M139 hM139=>?_
  have e139:M139=Q.new (.cells [i64 0,i64 0,i64 0,i64 0,i64 0,i64 0] true):=hM139
  have k139:Keep Q M139 []:=by rw[e139];exact Keep.new hRQ.wf _
  have g139:M139.get Q.next=some (.cells [i64 0,i64 0,i64 0,i64 0,i64 0,i64 0] true):=by rw[e139];exact get_new _ _
  have n139:M139.next=Q.next+1:=by rw[e139];rfl
  clear hM139 e139
  refine bindO_i (fd_stE l'[j] g139 rfl) ?_
  have k140:Keep Q (M139.put Q.next (.cells (fdC l'[j]) true)) []:=keep_put_new k139 (Nat.le_refl _) (by omega) _
  have g140:(M139.put Q.next (.cells (fdC l'[j]) true)).get Q.next=some (.cells (fdC l'[j]) true):=by rw[Mem.get_put,if_pos rfl]
  revert k140 g140
  generalize M139.put Q.next (.cells (fdC l'[j]) true)=M140
  intro k140 g140
  have hR140:=hRQ.post k140
  have hb140:=hbQ.keep hRQ.wf k140 (by simp) (by simp)
  refine bindO_i (eLd_some (ld_cell ty80' rfl hR140.fl (o:=7) (v:= .map A.mb) rfl)) ?_
  refine bindO_i (eLd_some (ld_cell ty3 rfl g140 (o:=3) (v:=i64 l'[j].t.p) rfl)) ?_
  simp only[i64,zI_int]
  refine bindO_i (eLd_some (ld_cell ty79 rfl hR140.fl (o:=6) (v:= .map A.mf) rfl)) ?_
  have lpl:eLd tb 85 (.ptr Q.next 0) M140=some (placeA l'[j].b l'[j].k,M140):=eLd_some (ld_agg (n:=2) ty85 rfl rfl g140 (by simp[fdC]))
  refine bindO_i lpl ⟨_,_,rfl,?_⟩
  obtain⟨xd,x1,x2,x3,x4⟩:=hR140.ver hbest.1
  have hbk':l'[j].b=(b:Int)∧l'[j].k=(k:Int)∧l'[j].t=v.t:=by rw[hx];exact⟨rfl,rfl,rfl⟩
  obtain⟨q1,q2,q3⟩:=hbk'
  rw[q1,q2,q3]
  have hlk:eLk tb 79 (.map A.mf) (placeA (b:Int) (k:Int)) false M140=some (pgA ⟨v.t.k,v.t.p,v.t.s,v.t.e,xd⟩,M140):=lookG_yes mt_found (show M140.get A.mf=some (.map (mG plA pgA m)) from hR140.mf) hR140.nd x1 false
  refine bindO_i hlk ⟨_,_,_,_,_,rfl,?_⟩
  have htag:=hi1.tag _ _ _ hbest.1
  have hd0:24≤v.d.length:=(okL_may htag.1).1.1
  have hsl:∃ b o n c e,xd= .sl b o n c e:=by
   rcases x2.2 with⟨_,h0⟩|⟨b',o',c',e',h0,_⟩
   ·omega
   ·exact⟨_,_,_,_,_,h0⟩
  obtain⟨pm',p1,p2,_⟩:=hb140.put hR140.wf av_mp.2.1 v.t.p xd (some v.d) (.inr ⟨v.d,rfl,x2,hsl,x4⟩)
  refine bindO_i p1 ?_
  have kp:Keep M140 (M140.put A.mb (.map (mG i64 (fun x:AV=>x) pm'))) [A.mb]:=Keep.put hR140.wf (hR140.wf _ _ hb140.get) _
  refine⟨_,by omega,j+1,pm',iInc (by omega),rfl,by omega,(hkQ.trans k140 (fun _ h _=>h) (by simp)).trans kp (fun _ h _=>h) (fun _ h _=>h),?_⟩
  have hp0:=(okL_may htag.1).2.2.2.1
  have hBp:B v.t.p=some v.d:=(hB1 v.t.p hp0 v.d).2 ⟨v.t.e,b,k,v,hbest,hk1,rfl,rfl,rfl⟩
  have hfun:Bj (j+1)=updN (Bj j) v.t.p (some v.d):=by
   funext p'
   unfold updN
   rw[hBj,hBj,List.take_add_one,List.getElem?_eq_getElem hlt,List.any_append]
   simp only[Option.toList_some,List.any_cons,List.any_nil,Bool.or_false,q3]
   by_cases e:p'=v.t.p
   ·rw[if_pos e,e]
    simp[hBp]
   ·rw[if_neg e]
    have:(v.t.p==p')=false:=by
     cases h:v.t.p==p' with
     | false=>rfl
     | true=>rw[beq_iff_eq] at h;exact absurd h.symm e
    rw[this,Bool.or_false]
  rw[hfun]
  exact p2
 ·
  have hge:¬ (j:Int)<l'.length:=of_decide_eq_false hge
  have:j=l'.length:=by omega
  subst this
  have hfun:Bj l'.length=fun n=>(B n).map some:=by
   funext p'
   rw[hBj,List.take_length]
   split
   ·rfl
   ·rename_i hno
    cases hBp:B p' with
    | none=>rfl
    | some d=>
      exfalso
      have hp0:0≤p':=by
       by_cases h0:0≤p'
       ·exact h0
       ·rw[hneg p' (by omega)] at hBp;cases hBp
      obtain⟨e,b,k,v,hbest,hk1,hpp,_,_⟩:=(hB1 p' hp0 d).1 hBp
      have hf:=(hfm ⟨b,k,v.t⟩).2 ⟨b,k,v,rfl,by rw[hpp];exact hbest,hk1⟩
      apply hno
      rw[List.any_eq_true]
      exact⟨_,hf,by simp[hpp]⟩
  rw[hfun] at hbQ
  have hmpQ:Q.get A.mp=some (.map []):=hkQ.get hR121.wf hmp121 (by simp;exact fun e=>w4 e.symm)
  have hmsQ:Q.get A.ms=some (.map []):=hkQ.get hR121.wf hms121 (by simp;exact fun e=>w5 e.symm)
  have hKQ:Keep M Q (foot p C):=by
   have k0:Keep M M121 (foot p C):=hm.st.keep.trans hk121' (fun _ h _=>h) (by simp)
   exact k0.trans hkQ (fun _ h _=>h) (fun c hc hlt=>by rw[List.mem_singleton] at hc;omega)
  refine (j_list hRQ (-1)).mono ?_
  rintro y3 M157 ⟨l2,hl2,hy3,hk157,fy3⟩
  have hmem2:=hRQ.mem_fds hl2
  have hlen2:l2.length≤160:=by
   have:=hl2.length_eq
   rw[List.length_map] at this
   have:=List.length_filter_le (fun q:Fnd=>q.1.1 != -1) m
   have:=hR.few
   omega
  refine (r_stale M157 hk157.wf y3 l2 hy3.at (by omega)).mono ?_
  rintro y4 M159 ⟨hy4,hk159,fy4⟩
  have hlast2:lastF l2=lastX S1:=lastF_mem hmem2
  have hlX:lastX S1=lastX S:=by rw[hS1];rfl
  have hstl:∀ f∈(l2.filter fun f=>decide (f.t.e>lastF l2)),f.t.e>lastX S:=fun f hf=>by
   rw[List.mem_filter,decide_eq_true_eq,hlast2,hlX] at hf
   exact hf.2
  have hstm:∀ f∈(l2.filter fun f=>decide (f.t.e>lastF l2)),∃ b k v,verAt S b k=some v∧f.t=v.t:=fun f hf=>by
   rw[List.mem_filter] at hf
   obtain⟨b,k,v,hv,e⟩:=Go.Proofs.YtlogedcoiogagaaGreat.mem_fds.1 ((hmem2 f).1 hf.1)
   rw[hS1] at hv
   exact⟨b,k,v,hv,by rw[e]⟩
  have hstlen:(l2.filter fun f=>decide (f.t.e>lastF l2)).length≤160:=Nat.le_trans (List.length_filter_le _ _) hlen2
  generalize (l2.filter fun f=>decide (f.t.e>lastF l2))=l4 at*
  have hk159':=hk157.trans0 hk159
  have hR159:=hRQ.post hk159'
  have hb159:=hbQ.keep hRQ.wf hk159' (by simp) (by simp)
  have hmp159:=hk159'.get hRQ.wf hmpQ (by simp)
  have hms159:=hk159'.get hRQ.wf hmsQ (by simp)
  have hQn:M121.next≤Q.next:=hkQ.nxt
  have h157n:Q.next≤M157.next:=hk157.nxt
  refine bindO_i (eLen_some hy4.at.len) ?_
  simp only[zI_int]
  refine⟨fun z n Q2=>∃ (j:Nat) (es:List (Int×Unit)),z=j∧n=l4.length-j∧j≤l4.length∧Keep M159 Q2 [A.ms]∧Q2.get A.ms=some (.map (mG i64 unA es))∧(es.map (·.1)).Nodup∧(l4=[]→es=[]),
   ⟨_,0,[],rfl,rfl,Nat.zero_le _,Keep.refl hR159.wf,hms159,List.nodup_nil,fun _=>rfl⟩,?_⟩
  rintro _ z n Q2 ⟨j,es,rfl,rfl,hj,hkQ2,hgQ2,hndQ2,hesQ2⟩
  have hRQ2:=hR159.stepX hkQ2 av_mp.2.2 w3
  have hyQ2:FdsAt Q2 y4 l4:=SlAt.keep hy4.at hR159.wf hkQ2 fun c hc hmm=>by
   rw[List.mem_singleton] at hmm
   have:=fy4 c hc
   omega
  refine condB_i (fun hlt=>?_) (fun hge=>?_)
  ·have hlt:j<l4.length:=Int.ofNat_lt.1 (of_decide_eq_true hlt)
   refine letP_i fun K186 hK186=>?_
   have key:∀ (N3:Mem) (es':List (Int×Unit)),Keep Q2 N3 [A.ms]→N3.get A.ms=some (.map (mG i64 unA es'))→(es'.map (·.1)).Nodup→K186 N3:=by
    intro N3 es' a1 a2 a3
    rw[hK186]
    exact⟨_,by omega,j+1,es',iInc (by omega),rfl,by omega,hkQ2.trans a1 (fun _ h _=>h) (fun _ h _=>h),a2,a3,fun e=>by rw[e] at hlt;simp at hlt⟩
   clear hK186
   obtain⟨b1,o1,a1,a2,_⟩:=hyQ2.all hlt
   refine bindO_i (a1 Q2) ?_
   rw[zP_ptr]
   refine bindO_i a2 ⟨_,_,_,_,_,_,rfl,?_⟩
   refine letP_i fun M177 hM177=>?_
   have e177:M177=Q2.new (.cells [i64 0,i64 0,i64 0,i64 0,i64 0,i64 0] true):=hM177
   have k177:Keep Q2 M177 []:=by rw[e177];exact Keep.new hRQ2.wf _
   have g177:M177.get Q2.next=some (.cells [i64 0,i64 0,i64 0,i64 0,i64 0,i64 0] true):=by rw[e177];exact get_new _ _
   have n177:M177.next=Q2.next+1:=by rw[e177];rfl
   clear hM177 e177
   refine bindO_i (fd_stE l4[j] g177 rfl) ?_
   have k178:Keep Q2 (M177.put Q2.next (.cells (fdC l4[j]) true)) []:=keep_put_new k177 (Nat.le_refl _) (by omega) _
   have g178:(M177.put Q2.next (.cells (fdC l4[j]) true)).get Q2.next=some (.cells (fdC l4[j]) true):=by rw[Mem.get_put,if_pos rfl]
   revert k178 g178
   generalize M177.put Q2.next (.cells (fdC l4[j]) true)=M178
   intro k178 g178
   have hR178:=hRQ2.post k178
   have hg178:=k178.get hRQ2.wf hgQ2 (by simp)
   refine bindO_i (eLd_some (ld_cell ty3 rfl g178 (o:=2) (v:=i64 l4[j].t.k) rfl)) ?_
   simp only[i64,zI_int]
   refine condB_i (fun _=>?_) (fun _=>key M178 es (k178.mono (by simp)) hg178 hndQ2)
   refine bindO_i (eLd_some (ld_cell ty81 rfl hR178.fl (o:=9) (v:= .map A.ms) rfl)) ?_
   refine bindO_i (eLd_some (ld_cell ty3 rfl g178 (o:=3) (v:=i64 l4[j].t.p) rfl)) ?_
   simp only[i64,zI_int]
   obtain⟨es',p1,p2,_,_⟩:=putG mt_stale hg178 hndQ2 l4[j].t.p ()
   refine bindO_i p1 ?_
   exact key _ es' (k178.trans (Keep.put k178.wf (k178.wf _ _ hg178) _) (by simp) (fun _ h _=>h)) (by rw[Mem.get_put,if_pos rfl]) p2
  ·refine (j_worn hRQ2).mono ?_
   rintro y5 M189 ⟨rfl,hR189,hk189⟩
   simp only[i64,zI_int]
   have hkA:∀ c∈[A.f],c∈A.av:=fun c hc=>by rw[List.mem_singleton] at hc;rw[hc];simp[Adr.av,Adr.all]
   have hbQ2:=hb159.keep hR159.wf hkQ2 (by simp[w5]) hT3
   have hfw:A.f∈A.wr:=by simp[Adr.wr]
   have hbf:=hbQ2.keep hRQ2.wf hk189 (by simp;exact fun e=>w1 (by rw[e];exact hfw)) hkA
   have hmpQ2:=hkQ2.get hR159.wf hmp159 (by simp[w6])
   have hmpf:=hk189.get hRQ2.wf hmpQ2 (by simp;exact fun e=>w2 (by rw[e];exact hfw))
   have hmsf:=hk189.get hRQ2.wf hgQ2 (by simp;exact fun e=>w3 (by rw[e];exact hfw))
   have hS1x:S1.x=S.x∧S1.g=S.g∧S1.fs=S.fs∧S1.now=0∧S1.ep=ep∧S1.ops=C'.ops:=by rw[hS1];exact⟨rfl,rfl,rfl,rfl,rfl,rfl⟩
   have hlost1:lostN S1=lostN S:=by rw[hS1];rfl
   have hwx:(wornX S1).1.x=S1.x∧(wornX S1).1.g=S1.g∧(wornX S1).1.fs=S1.fs∧(wornX S1).1.now=S1.now∧(wornX S1).1.ep=S1.ep∧(wornX S1).1.ops=S1.ops∧(wornX S1).1.deg= !decide ((lostN S1:Int)≤S1.g.sp):=by
    unfold wornX
    split
    ·rename_i hh
     refine⟨rfl,rfl,rfl,rfl,rfl,rfl,?_⟩
     rw[decide_eq_true hh,hS1];rfl
    ·rename_i hh
     refine⟨rfl,rfl,rfl,rfl,rfl,rfl,?_⟩
     rw[decide_eq_false hh];rfl
   obtain⟨x1,x2,x3,x4,x5,x6,x7⟩:=hwx
   refine⟨A,(wornX S1).1,by first|trivial|rfl,hAp,hAft,hAfs,hAe,hnew,⟨hAb,hApn,hAs,hAf⟩,?_,⟨x1.trans hS1x.1,x2.trans hS1x.2.1,x3.trans hS1x.2.2.1,x4.trans hS1x.2.2.2.1⟩,?_,?_,⟨fun b k v hv=>?_,?_⟩,⟨_,_,hR189⟩,⟨hmpf,List.nodup_nil,fun q hq=>by simp at hq,fun n x hx=>by cases hx⟩,⟨bm,hbf⟩,⟨_,hmsf,fun hno=>?_⟩⟩
   ·have k1:Keep M Q2 (foot p C):=(hKQ.trans hk159' (fun _ h _=>h) (by simp)).trans hkQ2 (fun _ h _=>h) (fun c hc hlt=>by rw[List.mem_singleton] at hc;omega)
    exact k1.trans hk189 (fun _ h _=>h) (fun c hc hlt=>by rw[List.mem_singleton] at hc;omega)
   ·rw[x7,hlost1,hS1x.2.1]
   ·rw[x6,hS1x.2.2.2.2.2]
    have h9:((nB S:Int)*(nG S:Int))=((nB S*nG S:Nat):Int):=by rw[Int.natCast_mul]
    omega
   ·rw[x5,hS1x.2.2.2.2.1]
    obtain⟨q,hq,_,_,e1⟩:=hfnd b k v hv
    rw[← e1];exact hm.epb.2.2 q hq
   ·rw[x5,hS1x.2.2.2.2.1]
    rcases hm.epb.2.1 with h0|⟨q,hq,e⟩
    ·exact .inl h0
    ·obtain⟨b,k,v,_,_,e3,e4,_⟩:=hm.lnk q hq
     exact .inr ⟨b,k,v,e3,by rw[← e4.2.2.2];exact e⟩
   ·have hl4:l4=[]:=by
     cases hl4:l4 with
     | nil=>rfl
     | cons f r=>
       exfalso
       have hf:f∈l4:=by rw[hl4];simp
       have h1:=hstl f hf
       obtain⟨b,k,v,hv,e⟩:=hstm f hf
       have h2:=hno b k v hv
       rw[e] at h1
       omega
    rw[hesQ2 hl4]
    rfl
def lowOf(x:Int)(n:Nat):Nat:=((x%18446744073709551616).tmod (n:Int)).toNat
theorem lowOf_lt(x:Int){n:Nat}(hn:0<n):lowOf x n<n:=by
 unfold lowOf
 have h0:0≤x%18446744073709551616:=Int.emod_nonneg _ (by omega)
 rw[Int.tmod_eq_emod_of_nonneg h0]
 have:=Int.emod_lt_of_pos (x%18446744073709551616) (show (0:Int)<n by omega)
 have:=Int.emod_nonneg (x%18446744073709551616) (show (n:Int)≠0 by omega)
 omega
theorem l_low(M:Mem)(x:Int)(n:Nat)(hn:0<n)(hn2:n<4611686018427387904):
 CallA tb.P 14 [i64 x,i64 (n:Int)] M fun y N=>y=i64 (lowOf x n:Int)∧N=M:=by
 have h0:0≤x%18446744073709551616:=Int.emod_nonneg _ (by omega)
 have e1:(n:Int)%18446744073709551616=n:=by omega
 have hnn:(n:Int)≠0:=by omega
 have hlt:=lowOf_lt x hn
 have h2:0≤(x%18446744073709551616).tmod (n:Int):=Int.tmod_nonneg _ h0
 have e2:(x%18446744073709551616).tmod (n:Int)=(lowOf x n:Int):=by unfold lowOf;omega
 refine F14_ok ?_
 unfold F14
 simp only[i64,zI_int,wrap_u64,e1]
 refine bindO_i (eBin_some (v:= .val (.int .u64 (lowOf x n:Int))) ?_) ?_
 ·rw[evBin_int (by simp) (by simp)]
  simp only[intBin,hnn,decide_false,cond_false,e2,Option.map_some]
 ·simp only[zI_int]
  rw[wrap_i64' (by omega) (by omega)]
  exact⟨rfl,by trivial⟩
def datF(z:Int)(n:Nat):Dat:=(List.range n).map fun i:Nat=>BitVec.ofInt 8 (z+(i:Int))
@[simp] theorem datF_len (z:Int) (n:Nat):(datF z n).length=n:=by simp[datF]
theorem datF_step(z:Int)(i:Nat):AV.val (.int .u8 (iAdd .u8 z (IntKind.wrap .u8 (i:Int))))=bv8 (BitVec.ofInt 8 (z+(i:Int))):=by
 unfold bv8
 rw[iAdd,wrap_u8,wrap_u8,BitVec.toNat_ofInt]
 congr 2
 have h1:((2^8:Nat):Int)=256:=by decide
 rw[h1]
 have:0≤(z+(i:Int))%256:=Int.emod_nonneg _ (by omega)
 omega
theorem datF_succ(z:Int)(k:Nat):datF z (k+1)=datF z k++[BitVec.ofInt 8 (z+(k:Int))]:=by
 unfold datF
 rw[List.range_succ,List.map_append,List.map_cons,List.map_nil]
theorem l_data(M:Mem)(hw:M.WF)(a:Int)(n:Nat)(hn0:0<n)(hn:n≤1000):CallA tb.P 16 [.val (.int .u8 a),i64 (n:Int)] M fun y N=>Keep M N []∧BytesAt N y (datF a n)∧∀ c,inBlk y c→M.next≤c:=by
 refine F16_ok ?_
 unfold F16
 simp only[i64,zI_int]
 have hmk:=make_sl (T:=tb) (M:=M) ty37 rfl ty5 (l:=n) (c:=n) (by omega) (by simp only;omega) (by omega) (k1:= .i64) (k2:= .i64)
 refine bindO_i hmk ?_
 have hz:repA n (ofVs ([Value.int .u8 0]:List Value))=bvs (datF a 0++List.replicate (n-0) 0#8):=by
  simp only[ofVs,ofV,repA_one',datF,List.range_zero,List.map_nil,List.nil_append,Nat.sub_zero]
  simp[bvs,bv8]
 have hw1:(M.new (.cells (repA n (ofVs ([Value.int .u8 0]:List Value))) true)).WF:=hw.new _
 refine⟨fun z q P=>∃ (k:Nat),z=(k:Int)∧q=n-k∧k≤n∧Keep M P []∧P.get M.next=some (.cells (bvs (datF a k++List.replicate (n-k) 0#8)) true),⟨n,0,rfl,rfl,Nat.zero_le _,Keep.new hw _,by rw[get_new,hz]⟩,?_⟩
 rintro _ z q P ⟨k,rfl,rfl,hk,hK,hg⟩
 refine condB_i (fun hlt=>?_) (fun hge=>?_)
 ·have hlt:k<n:=Int.ofNat_lt.1 (of_decide_eq_true hlt)
  have hia:eIA tb 37 (.sl M.next 0 n n none) (.val (.int .i64 (k:Int))) P=some (.ptr M.next k,P):=by
   refine eIA_some ?_
   unfold evIndexAddr
   rw[ty37]
   simp only[ty5,Int.toNat_natCast]
   have h0:decide (0≤(k:Int))=true:=by simp
   simp only[h0,blt_of hlt,cond_true]
   simp
  refine bindO_i hia ?_
  simp only[zP_ptr]
  have hl:(bvs (datF a k++List.replicate (n-k) 0#8)).length=n:=by simp;omega
  refine bindO_i (eSt_some (st_cell ty5 rfl rfl hg (by omega))) ?_
  refine⟨n-(k+1),by omega,k+1,iInc (by omega),rfl,hlt,keep_put_new hK (Nat.le_refl _) (hK.wf _ _ hg) _,?_⟩
  rw[Mem.get_put,if_pos rfl,datF_step,datF_succ]
  congr 2
  unfold bvs
  rw[← List.map_set]
  congr 1
  rw[List.append_assoc]
  have e:List.replicate (n-k) 0#8=0#8::List.replicate (n-(k+1)) 0#8:=by
   rw[show n-k=(n-(k+1))+1 by omega,List.replicate_succ]
  rw[e]
  have e2:=List.set_append_right (s:=datF a k) (t:=0#8::List.replicate (n-(k+1)) 0#8) k (BitVec.ofInt 8 (a+(k:Int))) (by simp)
  rw[datF_len,Nat.sub_self,List.set_cons_zero] at e2
  exact e2
 ·have hge:k=n:=by
   have:¬ (k:Int)<n:=by simpa using hge
   omega
  subst hge
  rw[Nat.sub_self,List.replicate_zero,List.append_nil] at hg
  refine⟨hK,⟨by simp,.inr ⟨_,_,_,_,by rw[datF_len],⟨by simp,.inl rfl⟩,.inr ⟨_,_,hg,by simp,?_⟩⟩⟩,fun c hc=>?_⟩
  ·rw[List.drop_zero,List.take_of_length_le (by simp)]
  ·have:c=M.next∨M.next=c:=by first|exact .inl hc.2|exact .inr hc.2
   omega
theorem l_in58(M:Mem)(a b c:Int):CallA tb.P 58 [i64 a,i64 b,i64 c] M fun y N=>y= .val (.bool (inB a b c))∧N=M:=by
 refine F58_ok ?_
 unfold F58 inB
 simp only[i64,zI_int,letP_eq]
 refine condB_i (fun h=>?_) (fun h=>?_)
 ·have h:b≤a:=by simpa using h
  simp[h]
 ·have h:¬ b≤a:=by simpa using h
  simp[h]
theorem l_half50(M:Mem)(hw:M.WF)(g:Geo)(h1:8≤g.bl∧g.bl≤20)(h2:4≤g.pg∧g.pg≤8)(h3:0≤g.sp∧g.sp≤4):CallA tb.P 50 [geoA g] M fun y N=>(∃ z,y=i64 z∧decide (z≥4)=decide (12≤(g.bl-g.sp-3)*g.pg))∧Keep M N []:=by
 refine F50_ok ?_
 unfold F50
 refine⟨_,_,_,_,_,rfl,?_⟩
 simp only[letP_eq]
 have hg:=get_new M (.cells (geoC g) true)
 obtain⟨l0,l1,l2,l3,l4,_⟩:=geo_ld hg
 have hK:=Keep.new hw (.cells (geoC g) true)
 refine bindO_i (eLd_some l0) ?_
 simp only[i64,zI_int]
 refine bindO_i (eLd_some l3) ?_
 simp only[i64,zI_int]
 refine bindO_i (eLd_some l1) ?_
 simp only[i64,zI_int]
 obtain⟨e,hb1,hb2⟩:=half_eq h1 h2 h3
 rw[e]
 generalize (g.bl-g.sp-3)*g.pg=m at hb1 hb2 ⊢
 refine bindO_i (max_int _ _ _) ?_
 simp only[zI_int]
 refine⟨⟨_,rfl,?_⟩,hK⟩
 have hp:0≤max (m-4) 0∧max (m-4) 0≤1000000:=by omega
 rw[iQuo,Int.tdiv_eq_ediv_of_nonneg hp.1,wrap_i64' (by omega) (by omega),decide_eq_decide]
 omega
theorem l_may22(M:Mem)(hw:M.WF)(g:Geo):CallA tb.P 22 [geoA g] M fun y N=>y= .val (.bool (mayG g))∧Keep M N []:=by
 refine F22_ok ?_
 unfold F22
 refine⟨_,_,_,_,_,rfl,?_⟩
 simp only[letP_eq]
 have hg:=get_new M (.cells (geoC g) true)
 obtain⟨l0,l1,l2,l3,l4,l5⟩:=geo_ld hg
 have hK:=Keep.new hw (.cells (geoC g) true)
 unfold mayG
 refine bindO_i (eLd_some l0) ?_
 simp only[i64,zI_int]
 refine (l_in58 _ g.bl 8 20).mono ?_
 rintro y N ⟨rfl,rfl⟩
 simp only[zB_bool]
 generalize hh0:inB g.bl 8 20=q0
 refine condB_i (fun h=>?_) (fun h=>⟨by rw[h];rfl,hK⟩)
 subst h
 rw[Bool.true_and]
 refine bindO_i (eLd_some l1) ?_
 simp only[i64,zI_int]
 refine (l_in58 _ g.pg 4 8).mono ?_
 rintro y N ⟨rfl,rfl⟩
 simp only[zB_bool]
 generalize hh1:inB g.pg 4 8=q1
 refine condB_i (fun h=>?_) (fun h=>⟨by rw[h];rfl,hK⟩)
 subst h
 rw[Bool.true_and]
 refine bindO_i (eLd_some l2) ?_
 simp only[i64,zI_int]
 refine (l_in58 _ g.by' 24 64).mono ?_
 rintro y N ⟨rfl,rfl⟩
 simp only[zB_bool]
 generalize hh2:inB g.by' 24 64=q2
 refine condB_i (fun h=>?_) (fun h=>⟨by rw[h];rfl,hK⟩)
 subst h
 rw[Bool.true_and]
 refine bindO_i (eLd_some l3) ?_
 simp only[i64,zI_int]
 refine (l_in58 _ g.sp 0 4).mono ?_
 rintro y N ⟨rfl,rfl⟩
 simp only[zB_bool]
 generalize hh3:inB g.sp 0 4=q3
 refine condB_i (fun h=>?_) (fun h=>⟨by rw[h];rfl,hK⟩)
 subst h
 rw[Bool.true_and]
 refine bindO_i (eLd_some l4) ?_
 simp only[i64,zI_int]
 refine (l_in58 _ g.tr 2 20).mono ?_
 rintro y N ⟨rfl,rfl⟩
 simp only[zB_bool]
 generalize hh4:inB g.tr 2 20=q4
 refine condB_i (fun h=>?_) (fun h=>⟨by rw[h];rfl,hK⟩)
 subst h
 rw[Bool.true_and]
 refine bindO_i (eLd_some l5) ?_
 refine⟨_,_,_,_,_,rfl,?_⟩
 unfold inB at hh0 hh1 hh3
 simp only[Bool.and_eq_true,decide_eq_true_eq] at hh0 hh1 hh3
 refine (l_half50 _ hK.wf g hh0 hh1 hh3).mono ?_
 rintro y N ⟨⟨z,rfl,hz⟩,hk2⟩
 simp only[i64,zI_int]
 exact⟨by rw[hz],hK.trans0 hk2⟩
def IntsAt(M:Mem)(x:AV)(l:List Int):Prop:=SlAt 1 M x l.length (l.map i64)
theorem GrV.ints{M:Mem}{x:AV}{l:List Int}(h:GrV M x (l.map i64)):IntsAt M x l:=by
 have:=h.at
 unfold IntsAt
 unfold VsAt at this
 rwa [List.length_map] at this
theorem IntsAt.len{M M':Mem}{x:AV}{l:List Int}(h:IntsAt M x l):evLenCap tb false 25 x M'=some l.length:=SlAt.len h ty25 rfl
theorem IntsAt.at{M:Mem}{x:AV}{l:List Int}(h:IntsAt M x l){i:Nat}(hi:i<l.length):
 ∃ b o,evIndexAddr tb 25 x (.val (.int .i64 (i:Int)))=some (.ptr b o)∧evLoad tb 3 (.ptr b o) M=some (i64 l[i]):=by
 obtain⟨b,o,h1,_,h2,_⟩:=SlAt.at h ty25 rfl ty3 rfl hi (k':= .i64)
 refine⟨b,o,h1,?_⟩
 unfold evLoad
 rw[ty3]
 have:=h2 0 (by omega)
 simp only[Nat.add_zero,Nat.mul_one] at this
 rw[List.getElem?_map,List.getElem?_eq_getElem hi] at this
 simpa[TI.isAgg] using this
theorem l_sameInts(M:Mem)(x y:AV)(l m:List Int)(hx:IntsAt M x l)(hy:IntsAt M y m)(hl:l.length≤9223372036854775806):
 CallA tb.P 28 [x,y] M fun v N=>v= .val (.bool (decide (l=m)))∧N=M:=by
 refine F28_ok ?_
 unfold F28
 refine bindO_i (eLen_some hx.len) ?_
 simp only[zI_int]
 refine bindO_i (eLen_some hy.len) ?_
 simp only[zI_int]
 refine condB_i (fun hne=>?_) (fun heq=>?_)
 ·have:l≠m:=fun h=>by subst h;simp at hne
  simp[this]
 ·have hlen:l.length=m.length:=by simp at heq;omega
  refine⟨fun z n N=>∃ i:Nat,z=i∧n=l.length-i∧i≤l.length∧N=M∧l.take i=m.take i,⟨l.length,0,rfl,rfl,Nat.zero_le _,rfl,by simp⟩,?_⟩
  rintro _ z n N ⟨i,rfl,rfl,hi,rfl,htk⟩
  refine bindO_i (eLen_some hx.len) ?_
  simp only[zI_int]
  refine condB_i (fun hlt=>?_) (fun hge=>?_)
  ·have hlt:i<l.length:=by simpa using hlt
   have hlt':i<m.length:=by omega
   obtain⟨b,o,hia,hld⟩:=hx.at hlt
   obtain⟨b',o',hia',hld'⟩:=hy.at hlt'
   refine bindO_i (eIA_some hia) ?_
   refine bindO_i (eIA_some hia') ?_
   refine bindO_i (eLd_some hld) ?_
   simp only[i64,zI_int]
   refine bindO_i (eLd_some hld') ?_
   simp only[i64,zI_int]
   refine condB_i (fun hd=>?_) (fun hd=>?_)
   ·have hne:l[i]≠m[i]:=by simpa using hd
    have:l≠m:=fun h=>by subst h;exact hne rfl
    simp[this]
   ·have he:l[i]=m[i]:=by simpa using hd
    exact⟨l.length-(i+1),by omega,i+1,iInc (by omega),rfl,hlt,by trivial,by rw[List.take_succ_eq_append_getElem hlt,List.take_succ_eq_append_getElem hlt',htk,he]⟩
  ·have hge:i=l.length:=by have:¬ (i:Int)<l.length:=by simpa using hge
                           omega
   subst hge
   have:l=m:=by
    rw[List.take_of_length_le (Nat.le_refl _),List.take_of_length_le (by omega)] at htk
    exact htk
   simp[this]
structure LC (M0:Mem) (g:Geo) (k n:Int) (M:Mem) (p:Nat) (C:Chip) (S:Ps) (B:Int→Option Dat):Prop where
 wf:M.WF
 chip:ChipAt M p C
 rel:CRel C S
 q:Quiet S
 base:BaseOk S B
 neg:∀ p:Int,p<0→B p=none
 g:S.g=g
 ops:S.ops≤n
 ep:S.ep≤k
 ge:∀ c∈foot p C,M0.next≤c
 nx:M0.next≤M.next
 low:∀ c,c<M0.next→M.get c=M0.get c
structure LF (M0:Mem) (g:Geo) (k n:Int) (A:Adr) (M:Mem) (S:Ps) (P:Int→Option (Option Dat)) (B:Int→Option Dat):Prop where
 fm:FM A M S P B
 q:Quiet S
 base:BaseOk S B
 pend:PendOk S.g P
 neg:∀ p:Int,p<0→B p=none
 deg:S.deg=false
 g:S.g=g
 ops:S.ops≤n
 ep:S.ep≤k
 ext:∀ c∈A.ext,c<M.next
 ge:∀ c∈A.all,M0.next≤c
 nx:M0.next≤M.next
 low:∀ c,c<M0.next→M.get c=M0.get c
def NoP:Int→Option (Option Dat):=fun _=>none
theorem ovl_no(B:Int→Option Dat):ovl NoP B=B:=rfl
theorem Adr.mw_all{A:Adr}:∀ c∈A.mw,c∈A.all:=fun c hc=>by
 simp only[Adr.mw,Adr.wr,Adr.all,List.mem_cons] at hc ⊢
 rcases hc with h|h|h|h|h|h <;> simp[h]
theorem Adr.mp_all{A:Adr}:∀ c∈[A.mp],c∈A.all:=fun c hc=>by
 rw[List.mem_singleton] at hc
 simp[Adr.all,hc]
section
variable {M0:Mem} {g:Geo} {k n:Int} {A:Adr} {M:Mem} {S:Ps} {P:Int→Option (Option Dat)} {B:Int→Option Dat}
theorem LF.wf(h:LF M0 g k n A M S P B):M.WF:=h.fm.wf
theorem LF.hext(h:LF M0 g k n A M S P B):∀ c∈A.ext,c<M.next:=h.ext
theorem LF.lt(h:LF M0 g k n A M S P B):∀ c∈A.all,c<M.next:=fun c hc=>h.fm.av_lt h.hext c (by simp only[Adr.av,List.mem_append];exact .inl hc)
theorem low_step{N:Mem}{T:List Nat}(hl:∀ c,c<M0.next→M.get c=M0.get c)(hn:M0.next≤M.next)(hge:∀ c∈T,M0.next≤c)(hk:Keep M N T):∀ c,c<M0.next→N.get c=M0.get c:=fun c hc=>by
 rw[hk.old c (by omega) fun hm=>by have:=hge c hm;omega]
 exact hl c hc
theorem LF.keep{N:Mem}(h:LF M0 g k n A M S P B)(hk:Keep M N []):LF M0 g k n A N S P B:=
 { h with fm:=h.fm.post hk,ext:=fun c hc=>Nat.lt_of_lt_of_le (h.ext c hc) hk.nxt,nx:=Nat.le_trans h.nx hk.nxt,low:=low_step h.low h.nx (by simp) hk }
theorem MpOk.aside{pm:List (Int×AV)}{R:Int→Option (Option Dat)}{b:Nat}(h:MpOk M A b pm R)(hw:M.WF){T:List Nat}(hT:∀ c∈T,M.next≤c):MpOk M { A with ext:=T++A.ext } b pm R:=
 ⟨h.get,h.nd,fun q hq=>(h.ent q hq).imp id fun⟨d,e1,e2,e3,e4⟩=>⟨d,e1,e2,e3,fun c hc hm=>by
  have hlt:c<M.next:=by
   rcases e2.2 with⟨e5,e6⟩|⟨b',o,cp,ex,e5,_,e6⟩
   ·rw[e5] at hc;exact hc.elim
   ·rw[e5] at hc
    rcases e6 with e6|⟨cs,rw',e7,_⟩
    ·exact absurd e6 hc.1
    ·rw[← hc.2];exact hw _ _ e7
  simp only[Adr.av,List.mem_append] at hm
  rcases hm with hm|hm|hm
  ·exact e4 c hc (by simp only[Adr.av,List.mem_append];exact .inl hm)
  ·have:=hT c hm;omega
  ·exact e4 c hc (by simp only[Adr.av,List.mem_append];exact .inr hm)⟩,h.cov⟩
theorem FM.aside(h:FM A M S P B){T:List Nat}(hT:∀ c∈T,M.next≤c):FM { A with ext:=T++A.ext } M S P B:=by
 obtain⟨C,m,hr⟩:=h.fr
 obtain⟨pm,hp⟩:=h.pend
 obtain⟨bm,hb⟩:=h.base
 exact⟨⟨C,m,hr.aside hT⟩,⟨pm,hp.aside h.wf hT⟩,⟨bm,hb.aside h.wf hT⟩,h.stale⟩
theorem LF.aside{N:Mem}(h:LF M0 g k n A M S P B)(hk:Keep M N []){T:List Nat}(hT:∀ c∈T,M.next≤c∧c<N.next):LF M0 g k n { A with ext:=T++A.ext } N S P B:=
 { (h.keep hk) with fm:=(h.fm.aside fun c hc=>(hT c hc).1).post hk,ext:=fun c hc=>(List.mem_append.1 hc).elim (fun hc=>(hT c hc).2) (fun hc=>Nat.lt_of_lt_of_le (h.ext c hc) hk.nxt),ge:=h.ge }
theorem LF.mono{k' n':Int}(h:LF M0 g k n A M S P B)(hk:k≤k')(hn:n≤n'):LF M0 g k' n' A M S P B:=
 { h with ops:=Int.le_trans h.ops hn,ep:=Int.le_trans h.ep hk }
theorem LF.may(h:LF M0 g k n A M S P B):mayG g=true:=by rw[← h.g];exact h.q.inv.may
theorem LF.left(h:LF M0 g k n A M S P B):∃ C,LC M0 g k n M A.p C S B∧foot A.p C=A.ft:=by
 obtain⟨C,m,hr⟩:=h.fm.fr
 exact⟨C,⟨h.wf,hr.chip,hr.rel,h.q,h.base,h.neg,h.g,h.ops,h.ep,fun c hc=>h.ge c (by rw[hr.foot] at hc;simp[Adr.all,hc]),h.nx,h.low⟩,hr.foot⟩
theorem LF.len(h:LF M0 g k n A M S P B){z:Int}(hz:0≤z){d:Dat}(hd:ovl P B z=some d):(d.length:Int)=g.by':=by
 rw[← h.g]
 unfold ovl at hd
 cases hP:P z with
 | none=>rw[hP] at hd;exact (h.base.rng h.q.inv hz hd).2
 | some x=>rw[hP] at hd;subst hd;exact h.pend.len z d hP
theorem ls_mountT{p:Nat}{C:Chip}(h:LC M0 g k n M p C S B)(hn:n≤1000000000){T:List Nat}(hT:∀ c∈T,c<M.next∧¬ inBlk C.fsA c):CallA tb.P 12 [.ptr p 0] M fun y N=>∃ A S',y= .tup [.ptr A.f 0,i64 0]∧A.ext=T∧LF M0 g k (n+160) A N S' NoP B∧A.p=p∧A.ft=foot p C∧S'.fs=S.fs∧Keep M N (foot p C)∧∀ c∈A.all,c∈foot p C∨M.next≤c:=by
 have hge:=h.q.inv.geo
 refine (f_mount M h.wf p C S h.chip h.rel h.q.inv (by have:=h.ops;omega) h.base h.neg hT).mono ?_
 rintro y N ⟨A,S',rfl,hm⟩
 have hnp:nB S*nG S≤160:=by
  have:nB S*nG S≤20*8:=Nat.mul_le_mul (by omega) (by omega)
  omega
 obtain⟨x1,x2,x3,x4⟩:=hm.x
 have x5:S'.now=S.now:=by rw[x4,h.q.now]
 have hS:S'={ S with seq:=S'.seq,ep:=S'.ep,deg:=S'.deg,ops:=S'.ops }:=by
  clear hm
  cases S'
  cases S
  simp only at x1 x2 x3 x5
  subst x1 x2 x3 x5
  rfl
 have hlx:=lastX_spec S
 have hle:∀ b k v,verAt S b k=some v→v.t.e≤lastX S:=fun b k v hv=>by rw[← h.q.ep];exact (h.q.inv.tag b k v hv).2.2.2.2
 have hep:S'.ep=lastX S:=by
  obtain⟨e1,e2⟩:=hm.ep
  refine Int.le_antisymm ?_ ?_
  ·rcases e2 with e2|⟨b,k,v,hv,e⟩
   ·rw[e2];exact hlx.2.1
   ·rw[← e];exact hle b k v hv
  ·rcases hlx.2.2 with e3|⟨b,i,v,hv,_,e⟩
   ·rw[e3]
    rcases e2 with e2|⟨b,k,v,hv,e⟩
    ·omega
    ·have:=(okL_may (h.q.inv.tag b k v hv).1).2.2.2.2.2.2.2.2.1
     omega
   ·rw[← e];exact e1 b i v hv
 have hl':lastX S'=lastX S:=by rw[hS];rfl
 have hlost:lostN S'=lostN S:=by rw[hS];rfl
 have hphi:phi S'=phi S:=by rw[hS];rfl
 obtain⟨C',m,hr⟩:=hm.fr
 obtain⟨es,hes,hes0⟩:=hm.stale
 obtain⟨bm,hbm⟩:=hm.base
 have hall:∀ c∈A.all,M0.next≤c:=fun c hc=>by
  have:=hm.new
  have:=hm.adr
  have:=h.nx
  simp only[Adr.all,List.mem_cons] at hc
  rcases hc with rfl|rfl|rfl|rfl|rfl|hc
  ·omega
  ·omega
  ·omega
  ·omega
  ·omega
  ·rw[hm.ft] at hc;exact h.ge c hc
 have hb':BaseOk S' B:=h.base.same ⟨hl',x5,fun c k p e d=>by rw[hS];exact Iff.rfl⟩
 refine⟨A,S',rfl,hm.ext,⟨⟨⟨C',m,hr⟩,⟨_,hm.pend⟩,⟨bm,hbm⟩,?_⟩,⟨hr.inv,x4,by rw[hep,hl'],?_,?_⟩,hb',⟨fun n x hx=>(by cases hx),fun n d hx=>(by cases hx)⟩,h.neg,?_,by rw[x2];exact h.g,?_,?_,(by rw[hm.ext];exact fun c hc=>Nat.lt_of_lt_of_le (hT c hc).1 hm.keep.nxt),hall,Nat.le_trans h.nx hm.keep.nxt,low_step h.low h.nx h.ge hm.keep⟩,hm.ap,hm.ft,x3,hm.keep,fun c hc=>?_⟩
 rotate_right
 ·have:=hm.new
  have:=hm.adr
  simp only[Adr.all,List.mem_cons] at hc
  rcases hc with rfl|rfl|rfl|rfl|rfl|hc
  ·right;omega
  ·right;omega
  ·right;omega
  ·right;omega
  ·right;omega
  ·left;rw[← hm.ft];exact hc
 ·rw[hes,hes0 hle]
 ·rw[hlost,x2];exact h.q.lost
 ·rw[hphi,x2];exact h.q.phi
 ·rw[hm.deg]
  have:=h.q.lost
  simp[this]
 ·have h1:=hm.ops.2
  have h2:=h.ops
  have h3:(nB S:Int)*nG S≤160:=by exact_mod_cast hnp
  omega
 ·rw[hep,← h.q.ep];exact h.ep
theorem ls_mount{p:Nat}{C:Chip}(h:LC M0 g k n M p C S B)(hn:n≤1000000000):CallA tb.P 12 [.ptr p 0] M fun y N=>∃ A S',y= .tup [.ptr A.f 0,i64 0]∧LF M0 g k (n+160) A N S' NoP B∧A.p=p∧A.ft=foot p C∧S'.fs=S.fs∧Keep M N (foot p C)∧∀ c∈A.all,c∈foot p C∨M.next≤c:=
 (ls_mountT h hn (T:=[]) (fun c hc=>by simp at hc)).mono fun y N ⟨A,S',h1,_,h2⟩=>⟨A,S',h1,h2⟩
theorem ls_write(h:LF M0 g k n A M S P B){z:Int}(hz:0≤z∧z<logG g){w:AV}{d:Dat}(hw:BytesAt M w d)(hd:(d.length:Int)=g.by'):
 CallA tb.P 15 [.ptr A.f 0,i64 z,w] M fun y N=>y=i64 0∧LF M0 g k n A N S (updN P z (some d)) B∧Keep M N A.all:=by
 have hm:=mayG_iff.1 h.may
 refine (j_write h.fm h.hext (z:=z) (by rw[h.g];exact hz) hw (by rw[h.g];exact hd) ⟨by omega,by omega⟩).mono ?_
 rintro y N ⟨h1,_⟩
 obtain⟨rfl,hf,hk⟩:=h1 h.deg
 refine⟨rfl,{ h with fm:=hf,pend:=⟨fun n x hx=>?_,fun n d' hx=>?_⟩,ext:=fun c hc=>Nat.lt_of_lt_of_le (h.ext c hc) hk.nxt,nx:=Nat.le_trans h.nx hk.nxt,low:=low_step h.low h.nx (fun c hc=>h.ge c (Adr.mp_all c hc)) hk },hk.mono fun c hc _=>Adr.mp_all c hc⟩
 ·unfold updN at hx
  split at hx
  ·rename_i e;subst e;rw[h.g];exact hz
  ·exact h.pend.rng n x hx
 ·unfold updN at hx
  split at hx
  ·injection hx with hx;injection hx with hx;subst hx;rw[h.g];exact hd
  ·exact h.pend.len n d' hx
theorem ls_trim(h:LF M0 g k n A M S P B){z:Int}(hz:0≤z∧z<logG g):
 CallA tb.P 27 [.ptr A.f 0,i64 z] M fun y N=>(ovl P B z=none→y=i64 4∧LF M0 g k n A N S P B∧Keep M N A.all)∧(ovl P B z≠none→y=i64 0∧LF M0 g k n A N S (updN P z none) B∧Keep M N A.all):=by
 refine (j_trim h.fm (z:=z) (by rw[h.g];exact hz)).mono ?_
 rintro y N ⟨_,h2,h3⟩
 refine⟨fun e=>?_,fun e=>?_⟩
 ·obtain⟨rfl,hk⟩:=h2 h.deg e
  exact⟨rfl,h.keep hk,hk.mono (by simp)⟩
 ·obtain⟨rfl,hf,hk⟩:=h3 h.deg e
  refine⟨rfl,{ h with fm:=hf,pend:=⟨fun n x hx=>?_,fun n d' hx=>?_⟩,ext:=fun c hc=>Nat.lt_of_lt_of_le (h.ext c hc) hk.nxt,nx:=Nat.le_trans h.nx hk.nxt,low:=low_step h.low h.nx (fun c hc=>h.ge c (Adr.mp_all c hc)) hk },hk.mono fun c hc _=>Adr.mp_all c hc⟩
  ·unfold updN at hx
   split at hx
   ·rename_i e;subst e;rw[h.g];exact hz
   ·exact h.pend.rng n x hx
  ·unfold updN at hx
   split at hx
   ·cases hx
   ·exact h.pend.len n d' hx
theorem ls_flush(h:LF M0 g k n A M S P B)(hfs:(S.fs.length:Int)≤g.sp)(hn:n≤900000000)(hk:k≤16777214):
 CallA tb.P 17 [.ptr A.f 0] M fun y N=>y=i64 0∧∃ S',LF M0 g (k+1) (n+31000) A N S' NoP (ovl P B)∧S'.fs=S.fs∧Keep M N A.all:=by
 have hge:=h.q.inv.geo
 have hK0:putK S=9*(nB S+1)+1:=rfl
 have hops:=h.ops
 have hep:=h.ep
 refine (j_flush h.fm h.hext h.q h.pend h.deg (by omega) (by omega)).mono ?_
 rintro y N ⟨h1,h2⟩
 by_cases hP:∀ n,P n=none
 ·obtain⟨rfl,hf,hk'⟩:=h1 hP
  have e:P=NoP:=funext hP
  subst e
  exact⟨rfl,S,{ h with fm:=hf,ops:=by omega,ep:=by omega,ext:=fun c hc=>Nat.lt_of_lt_of_le (h.ext c hc) hk'.nxt,nx:=Nat.le_trans h.nx hk'.nxt,low:=low_step h.low h.nx (fun c hc=>h.ge c (Adr.mw_all c hc)) hk' },rfl,hk'.mono fun c hc _=>Adr.mw_all c hc⟩
 ·obtain⟨rfl,hk',h3,h4⟩:=h2 hP
  have hfl:=flush_ok (P:=P) (B:=B) h.q h.base h.pend (by omega) (by omega)
  obtain⟨e1,e2⟩:=hfl.env
  rcases hfl.code with⟨c0,hq,hd,he,hb⟩|⟨_,_,hlo,_⟩
  ·refine⟨by rw[c0],_,⟨h3 c0,hq,hb,⟨fun n x hx=>(by cases hx),fun n d hx=>(by cases hx)⟩,fun p hp=>?_,by rw[hd];exact h.deg,by rw[e1];exact h.g,?_,by omega,(fun c hc=>Nat.lt_of_lt_of_le (h.ext c hc) hk'.nxt),h.ge,Nat.le_trans h.nx hk'.nxt,low_step h.low h.nx (fun c hc=>h.ge c (Adr.mw_all c hc)) hk'⟩,e2,hk'.mono fun c hc _=>Adr.mw_all c hc⟩
   ·unfold ovl
    cases hPp:P p with
    | none=>exact h.neg p hp
    | some x=>have:=(h.pend.rng p x hPp).1;omega
   ·have ho:=hfl.ops.2
    have hnp:nB S*nG S+1≤161:=by
     have:nB S*nG S≤20*8:=Nat.mul_le_mul (by omega) (by omega)
     omega
    have:putK S*((nB S*nG S+1:Nat):Int)≤190*161:=by
     refine Int.mul_le_mul (by omega) (by omega) (by omega) (by omega)
    generalize putK S*((nB S*nG S+1:Nat):Int)=X at ho this
    omega
  ·exfalso
   have:=lostN_le (flushX S (act P B (zer S.g))).1
   rw[e2] at this
   have e0:S.g.sp=g.sp:=by rw[h.g]
   omega
theorem ls_read(h:LF M0 g k n A M S P B){z:Int}(hz:0≤z∧z<logG g):
 CallA tb.P 30 [.ptr A.f 0,i64 z] M fun y N=>LF M0 g k n A N S P B∧Keep M N []∧((ovl P B z=none∧y= .tup [nilS,i64 4])∨∃ x d,ovl P B z=some d∧y= .tup [x,i64 0]∧Gr N x d∧∀ c,inBlk x c→M.next≤c):=by
 have hm:=mayG_iff.1 h.may
 refine (j_read h.fm (z:=z) (by rw[h.g];exact hz) fun d hd=>?_).mono fun y N ⟨hk,h2⟩=>⟨h.keep hk,hk,h2⟩
 have:=h.len hz.1 hd
 omega
theorem ls_pages(h:LF M0 g k n A M S P B):CallA tb.P 29 [.ptr A.f 0] M fun y N=>LF M0 g k n A N S P B∧IntsAt N y (pgN (ovl P B) (logG g).toNat)∧Keep M N []∧∀ c,inBlk y c→M.next≤c:=by
 refine (j_pages h.fm).mono fun y N ⟨h1,h2,h3⟩=>⟨h.keep h2,?_,h2,h3⟩
 rw[h.g] at h1
 exact h1.ints
theorem ls_logical(h:LF M0 g k n A M S P B):CallA tb.P 20 [.ptr A.f 0] M fun y N=>y=i64 (logG g)∧LF M0 g k n A N S P B∧Keep M N []:=by
 obtain⟨C,m,hr⟩:=h.fm.fr
 refine (f_logical M h.wf A.f (flOf A S) A.p C hr.flat).mono fun y N ⟨h1,h2⟩=>⟨?_,h.keep h2,h2⟩
 rw[h1,hr.rel.g,h.g]
end
def newPs(g:Geo)(fs:List Flt):Ps:=⟨g,fs,List.replicate g.bl.toNat ⟨[],0,0⟩,0,0,0,false,0⟩
theorem new_ver(g:Geo)(fs:List Flt)(b i:Nat):verAt (newPs g fs) b i=none:=by
 unfold verAt newPs
 simp only[List.getElem?_replicate]
 split
 ·rename_i B hB
  split at hB
  ·injection hB with hB;subst hB;rfl
  ·cases hB
 ·rfl
theorem new_used(g:Geo)(fs:List Flt)(b:Nat):xUsed (newPs g fs) b=0:=by
 unfold xUsed newPs
 simp only[List.getElem?_replicate]
 split
 ·rename_i B hB
  split at hB
  ·injection hB with hB;subst hB;rfl
  ·cases hB
 ·rfl
theorem new_inv{g:Geo}(hg:mayG g=true)(fs:List Flt):PInv (newPs g fs):=by
 refine⟨hg,by simp[newPs,nB],fun b=>by rw[new_used];exact Nat.zero_le _,⟨fun b i v hv=>?_,fun b i v b' i' v' hv _ _=>?_⟩,fun b i v hv=>?_,fun b _=>new_used g fs b,⟨Int.le_refl _,Int.le_refl _⟩,fun b B hB=>?_⟩
 ·rw[new_ver] at hv;cases hv
 ·rw[new_ver] at hv;cases hv
 ·rw[new_ver] at hv;cases hv
 ·simp only[newPs,List.getElem?_replicate] at hB
  split at hB
  ·injection hB with hB;subst hB
   exact⟨Int.le_refl _,Int.le_refl _,Int.le_refl _,Int.le_refl _⟩
  ·cases hB
theorem fresh_last(g:Geo)(fs:List Flt):lastX (newPs g fs)=0:=by
 obtain⟨_,_,h|⟨b,i,v,hv,_⟩⟩:=lastX_spec (newPs g fs)
 ·exact h
 ·rw[new_ver] at hv;cases hv
theorem cnt_all{n:Nat}{is:Nat→Bool}(h:∀ b,b<n→is b=true):cnt n is=n:=by
 induction n with
 | zero=>rfl
 | succ n ih=>rw[cnt_succ,ih fun b hb=>h b (by omega),h n (by omega)];rfl
theorem new_quiet{g:Geo}(hg:mayG g=true){fs:List Flt}(hl:(lostN (newPs g fs):Int)≤g.sp):Quiet (newPs g fs):=by
 have hm:=mayG_iff.1 hg
 refine⟨new_inv hg fs,rfl,(fresh_last g fs).symm,hl,?_⟩
 have:phi (newPs g fs)=nB (newPs g fs):=cnt_all fun b _=>by unfold xFL;rw[new_used];simp
 rw[this]
 have:nB (newPs g fs)=g.bl.toNat:=rfl
 show 2+g.sp≤_
 omega
theorem new_base(g:Geo)(fs:List Flt):BaseOk (newPs g fs) (fun _=>none):=fun p hp d=>by
 refine⟨fun h=>(by cases h),fun⟨e,b,i,v,hb,_⟩=>?_⟩
 have:=hb.1
 rw[new_ver] at this;cases this
theorem new_rel{g:Geo}{fs:List Flt}{fsA:AV}{bb:Nat}{bs:List Blk}(hb:blank g bs)(hl:bs.length=g.bl.toNat):CRel (newChip g fsA fs bb bs) (newPs g fs):=by
 refine⟨rfl,rfl,⟨rfl,rfl⟩,rfl,fun b B hB=>?_⟩
 have hB:bs[b]? =some B:=hB
 have hlt:=(List.getElem?_eq_some_iff.1 hB).1
 have hm:=List.mem_of_getElem? hB
 have e:=hb B hm
 refine⟨⟨[],0,0⟩,by simp only[newPs,List.getElem?_replicate];rw[if_pos (by omega)],by rw[e];rfl,by rw[e];rfl,by rw[e];rfl,fun j v hv=>by simp at hv,fun j _ hj=>?_⟩
 rw[e]
 show List.take _ (List.drop _ (List.replicate _ _))=_
 rw[List.drop_replicate,List.take_replicate]
 congr 1
 have hj:j<g.pg.toNat:=hj
 have:(j+1)*rawN g≤g.pg.toNat*rawN g:=Nat.mul_le_mul_right _ hj
 rw[Nat.add_mul,Nat.one_mul] at this
 show min (rawN g) (g.pg.toNat*rawN g-j*rawN g)=rawN g
 omega
theorem new_left{M N:Mem}{g:Geo}{fs:List Flt}{p:Nat}{fsA:AV}{bb:Nat}{bs:List Blk}(hg:mayG g=true)(hl:(lostN (newPs g fs):Int)≤g.sp)(hk:Keep M N [])(hc:ChipAt N p (newChip g fsA fs bb bs))(hb:blank g bs)(hf:∀ c∈foot p (newChip g fsA fs bb bs),M.next≤c):
 LC M g 0 0 N p (newChip g fsA fs bb bs) (newPs g fs) (fun _=>none):=
 ⟨hk.wf,hc,new_rel hb hc.len,new_quiet hg hl,new_base g fs,fun _ _=>rfl,rfl,Int.le_refl _,Int.le_refl _,hf,hk.nxt,fun c hc=>hk.old c hc (by simp)⟩
theorem ovl_upd{P:Int→Option (Option Dat)}{B:Int→Option Dat}{a:Int}{x:Option Dat}(z:Int):ovl (updN P a x) B z=if z=a then x else ovl P B z:=by
 unfold ovl updN
 by_cases h:z=a
 ·rw[if_pos h,if_pos h]
 ·rw[if_neg h,if_neg h]
theorem ptr_eq28{p:Nat}{M:Mem}{xo yo:Operand}:eBin tb .eql 28 xo yo (.ptr p 0) (.ptr p 0) M=some (.val (.bool true),M):=by
 refine eBin_some ?_
 have h75:(match tb.ty.get 75 with|some te=>Nat.beq te.size 0|none=>true)=false:=by kernel_rfl
 show eqRes .eql (addrEq tb 28 (.ptr p 0) (.ptr p 0))=_
 unfold addrEq
 rw[ty28]
 cases hh:tb.ty.get 75 with
 | none=>rw[hh] at h75;cases h75
 | some te=>
   rw[hh] at h75
   simp only at h75
   simp only[hh,h75,cond_false,AM.beq_self,cond_true]
   rfl
theorem ints_one{M:Mem}(a:Int):IntsAt (M.new (.cells [.val (.int .i64 a)] true)) (.sl M.next 0 1 1 none) [a]:=
 ⟨rfl,.inr ⟨_,_,_,_,rfl,⟨Nat.le_refl _,.inl rfl⟩,.inr ⟨_,_,get_new _ _,Nat.le_refl _,rfl⟩⟩⟩
theorem IntsAt.keep{M N:Mem}{x:AV}{l:List Int}(h:IntsAt M x l)(hw:M.WF)(hk:Keep M N []):IntsAt N x l:=SlAt.keep0 h hw hk
theorem BytesAt.keep0{M N:Mem}{x:AV}{l:List (BitVec 8)}(h:BytesAt M x l)(hw:M.WF)(hk:Keep M N []):BytesAt N x l:=SlAt.keep0 h hw hk
def awG:Geo:=⟨8,4,32,0,2⟩
theorem aw_may:mayG awG=true:=by decide
theorem aw_log:logG awG=8:=by decide
theorem l_awake(M:Mem)(hw:M.WF):CallA tb.P 10 [] M fun y N=>y= .val (.bool true):=by
 refine F10_ok ?_
 unfold F10
 refine F35_ok ?_
 unfold F35
 refine letP_i fun M1 hM1=>?_
 have hM1:M1=M.new (.cells [i64 0,i64 0,i64 0,i64 0,i64 0] true):=hM1
 have hk1:Keep M M1 []:=by rw[hM1];exact Keep.new hw _
 have hg1:M1.get M.next=some (.cells [i64 0,i64 0,i64 0,i64 0,i64 0] true):=by rw[hM1];exact get_new _ _
 refine bindO_i (geo_st awG hg1 rfl) ?_
 have hk2:Keep M (M1.put M.next (.cells (geoC awG) true)) []:=keep_put_new hk1 (Nat.le_refl _) (hk1.wf _ _ hg1) _
 refine bindO_i (geo_res (g:=awG) (by rw[Mem.get_put,if_pos rfl])) ?_
 generalize M1.put M.next (.cells (geoC awG) true)=M2 at hk2 ⊢
 refine⟨_,_,_,_,_,rfl,?_⟩
 refine (c_new M2 hk2.wf awG _ [] (SlAt.nil) (by simp)).mono ?_
 rintro y8 M9 ⟨hk9,h9⟩
 rcases h9 with⟨hno,_⟩|⟨_,p,fsA,bb,bs,rfl,hc,hb,hf,hfi⟩
 ·exact absurd hno (by decide)
 have hlost:(lostN (newPs awG []):Int)≤awG.sp:=by decide
 have hL:=new_left aw_may hlost hk9 hc hb hf
 refine (ls_mount hL (by decide)).mono ?_
 rintro _ M11 ⟨A,S,rfl,hF,hAp,_,hfs,_⟩
 refine⟨_,_,rfl,?_⟩
 refine letP_i fun K17 hK17=>?_
 refine condB_i (fun h=>absurd h (by decide)) fun _=>?_
 refine bindO_i nil_eq22 ?_
 simp only[zB_bool]
 rw[hK17]
 dsimp only
 simp only[condB_false]
 clear hK17
 clear K17
 refine (l_data M11 hF.wf 9 32 (by decide) (by decide)).mono ?_
 rintro y18 M19 ⟨hk19,hy,_⟩
 refine (ls_write (hF.keep hk19) (z:=2) (by rw[aw_log];decide) hy (by rw[datF_len];rfl)).mono ?_
 rintro _ M21 ⟨rfl,hF,_⟩
 simp only[i64,zI_int]
 refine (ls_flush hF (by rw[hfs];decide) (by decide) (by decide)).mono ?_
 rintro _ M24 ⟨rfl,S2,hF,hfs2,_⟩
 simp only[i64,zI_int]
 obtain⟨C1,hL1,_⟩:=hF.left
 rw[hAp] at hL1
 refine (ls_mount hL1 (by decide)).mono ?_
 rintro _ M27 ⟨A,S3,rfl,hF,hAp,_,hfs3,_⟩
 refine⟨_,_,rfl,?_⟩
 refine letP_i fun K33 hK33=>?_
 refine condB_i (fun h=>absurd h (by decide)) fun _=>?_
 refine bindO_i nil_eq22 ?_
 simp only[zB_bool]
 rw[hK33]
 dsimp only
 simp only[condB_false]
 clear hK33
 clear K33
 have hv:∀ z,ovl NoP (ovl (updN NoP 2 (some (datF 9 32))) (fun _=>none)) z=if z=2 then some (datF 9 32) else none:=fun z=>by rw[ovl_no,ovl_upd];rfl
 refine (ls_read hF (z:=2) (by rw[aw_log];decide)).mono ?_
 rintro y34 M35 ⟨hF,_,hr⟩
 rcases hr with⟨hn,_⟩|⟨x,d,hd,rfl,hgr,_⟩
 ·rw[hv,if_pos rfl] at hn;cases hn
 rw[hv,if_pos rfl] at hd
 injection hd with hd
 subst hd
 refine⟨_,_,rfl,?_⟩
 have hx:=hgr.at
 have hw35:=hF.wf
 refine (ls_read hF (z:=3) (by rw[aw_log];decide)).mono ?_
 rintro y38 M39 ⟨hF,hk39,hr⟩
 rcases hr with⟨_,rfl⟩|⟨x3,d3,hd3,_⟩
 rotate_left
 ·rw[hv,if_neg (by decide)] at hd3;cases hd3
 have hx:=hx.keep0 hw35 hk39
 refine⟨_,_,rfl,?_⟩
 refine letP_i fun K62 hK62=>?_
 refine condB_i (fun _=>?_) fun h=>absurd h (by decide)
 refine condB_i (fun _=>?_) fun h=>absurd h (by decide)
 refine condB_i (fun _=>?_) fun h=>absurd h (by decide)
 refine (l_data M39 hF.wf 9 32 (by decide) (by decide)).mono ?_
 rintro y42 M43 ⟨hk43,hy,_⟩
 have hx:=hx.keep0 hF.wf hk43
 have hF:=hF.keep hk43
 refine (same_bytes M43 _ _ _ _ hx hy (by rw[datF_len];decide)).mono ?_
 rintro _ _ ⟨rfl,rfl⟩
 have ed:decide (datF 9 32=datF 9 32)=true:=decide_eq_true rfl
 simp only[zB_bool,ed,condB_true]
 refine condB_i (fun _=>?_) fun h=>absurd h (by decide)
 refine (ls_logical hF).mono ?_
 rintro _ M48 ⟨rfl,hF,_⟩
 simp only[i64,zI_int,aw_log]
 refine condB_i (fun _=>?_) fun h=>absurd h (by decide)
 refine (ls_pages hF).mono ?_
 rintro y50 M51 ⟨hF,hy5,_,_⟩
 refine letP_i fun M52 hM52=>?_
 have hk52:Keep M51 M52 []:=by rw[show M52=_ from hM52];exact Keep.new hF.wf _
 have hone:IntsAt M52 (.sl M51.next 0 1 1 none) [2]:=by rw[show M52=_ from hM52];exact ints_one _
 have hp:pgN (ovl NoP (ovl (updN NoP 2 (some (datF 9 32))) (fun _=>none))) (logG awG).toNat=[2]:=by
  rw[aw_log];decide
 rw[hp] at hy5
 refine (l_sameInts M52 _ _ _ _ (hy5.keep hF.wf hk52) hone (by decide)).mono ?_
 rintro _ _ ⟨rfl,rfl⟩
 simp only[zB_bool,decide_true,condB_true]
 have hF:=hF.keep hk52
 obtain⟨C2,m2,hr⟩:=hF.fm.fr
 refine (f_chip _ A.f (flOf A S3) A.p C2 hr.flat).mono ?_
 rintro _ M57 ⟨rfl,rfl⟩
 rw[hAp]
 refine bindO_i ptr_eq28 ?_
 simp only[zB_bool]
 rw[hK62]
section
variable {M0:Mem} {g:Geo} {k n:Int} {A:Adr} {M:Mem} {S:Ps} {P:Int→Option (Option Dat)} {B:Int→Option Dat}
theorem ls_wflush(h:LF M0 g k n A M S P B)(hfs:(S.fs.length:Int)≤g.sp)(hn:n≤900000000)(hk:k≤16777214){R:Int→Mem→Prop}(hQ:∀ N S',LF M0 g (k+1) (n+31000) A N S' NoP (ovl P B)→S'.fs=S.fs→Keep M N A.all→R 0 N):
 CallA tb.P 17 [.ptr A.f 0] M fun y N=>zI .i64 y fun z=>R z N:=by
 refine (ls_flush h hfs hn hk).mono ?_
 rintro y N ⟨rfl,S',hF,e,hk⟩
 simp only[i64,zI_int]
 exact hQ N S' hF e hk
end
theorem FltsAt.fields{M:Mem}{x:AV}{fs:List Flt}(h:FltsAt M x fs){i:Nat}(hi:i<fs.length):
 ∃ b o,evIndexAddr tb 24 x (.val (.int .i64 (i:Int)))=some (.ptr b o)∧evLoad tb 3 (.ptr b o) M=some (i64 fs[i].blk)∧evLoad tb 4 (.ptr b (o+1)) M=some (.val (.bool fs[i].fac))∧evLoad tb 3 (.ptr b (o+2)) M=some (i64 fs[i].aft):=by
 obtain⟨b,o,h1,_,h2,_⟩:=SlAt.at h ty24 rfl ty72 rfl hi (k':= .i64)
 have hl:∀ j,j<3→(fs.flatMap fltC)[i*3+j]? =(fltC fs[i])[j]? :=fun j hj=>flat_get fltC_len hi hj
 refine⟨b,o,h1,?_,?_,?_⟩
 ·unfold evLoad
  rw[ty3]
  simp only[TI.isAgg,cond_false]
  have:=h2 0 (by omega)
  rw[hl 0 (by omega)] at this
  exact this
 ·unfold evLoad
  rw[ty4]
  simp only[TI.isAgg,cond_false]
  have:=h2 1 (by omega)
  rw[hl 1 (by omega)] at this
  exact this
 ·unfold evLoad
  rw[ty3]
  simp only[TI.isAgg,cond_false]
  have:=h2 2 (by omega)
  rw[hl 2 (by omega)] at this
  exact this
def restF(g:Geo)(f:Flt):Bool:=decide (f.blk<0)||(decide (f.blk≥g.bl)||(decide (f.aft<0)||(decide (f.aft>1073741824)||(f.fac&&(f.aft != 0)))))
theorem okF_eq(g:Geo)(pre:List Flt)(f:Flt):okF g pre f= !((findF pre f.blk).isSome||restF g f):=rfl
theorem r_mayP(M:Mem)(hw:M.WF)(g:Geo)(x:AV)(fs:List Flt)(hx:FltsAt M x fs)(hfl:fs.length≤9223372036854775807):CallA tb.P 32 [geoA g,x] M fun y N=>y= .val (.bool (mayP g fs))∧Keep M N []:=by
 refine F32_ok ?_
 unfold F32
 refine⟨_,_,_,_,_,rfl,?_⟩
 refine letP_i fun M6 hM6=>?_
 have hM6':M6=M.new (.cells (geoC g) true):=hM6
 have hK:Keep M M6 []:=by rw[hM6'];exact Keep.new hw _
 have hg:M6.get M.next=some (.cells (geoC g) true):=by rw[hM6'];exact get_new _ _
 clear hM6 hM6'
 refine letP_i fun K20 hK20=>?_
 obtain⟨_,_,_,_,_,l5⟩:=geo_ld hg
 refine bindO_i (eLd_some l5) ?_
 refine⟨_,_,_,_,_,rfl,?_⟩
 refine (l_may22 M6 hK.wf g).mono ?_
 rintro y N ⟨rfl,hk⟩
 simp only[zB_bool]
 have hk1:=hK.trans0 hk
 have hgN:=hk.get hK.wf hg (by simp)
 have hxN:FltsAt N x fs:=SlAt.keep0 hx hw hk1
 refine condB_i (fun h=>?_) (fun hm=>?_)
 ·have h:mayG g=false:=by simpa using h
  rw[hK20]
  refine condB_i (fun _=>⟨?_,hk1⟩) (fun h=>by cases h)
  unfold mayP
  rw[h];rfl
 have hm:mayG g=true:=by simpa using hm
 refine bindO_i (eLen_some hxN.len) ?_
 simp only[zI_int]
 rw[hK20]
 clear hK20 K20
 refine condB_i (fun h=>⟨?_,hk1⟩) (fun h=>?_)
 ·have h:¬ fs.length≤8:=by have:(8:Int)<fs.length:=by simpa using h
                           omega
  unfold mayP
  rw[decide_eq_false h,Bool.and_false,Bool.false_and]
 have h8:fs.length≤8:=by have:¬ ((fs.length:Int)>8):=by simpa using h
                         omega
 clear h
 refine⟨fun z n P=>∃ i:Nat,z=i∧n=fs.length-i∧i≤fs.length∧Keep N P []∧∀ j,j<i→okF g (fs.take j) (fs.getD j flt0)=true,⟨fs.length,0,rfl,rfl,Nat.zero_le _,Keep.refl hk.wf,fun j h=>by omega⟩,?_⟩
 rintro _ z n P ⟨i,rfl,rfl,hi,hkP,hok⟩
 have hxP:FltsAt P x fs:=SlAt.keep0 hxN hk.wf hkP
 have hall:=hk1.trans0 hkP
 refine bindO_i (eLen_some hxP.len) ?_
 simp only[zI_int]
 refine condB_i (fun hlt=>?_) (fun hge=>?_)
 rotate_left
 ·have hge:i=fs.length:=by have:¬ (i:Int)<fs.length:=by simpa using hge
                           omega
  subst hge
  refine⟨?_,hall⟩
  unfold mayP
  rw[hm,decide_eq_true h8,List.all_eq_true.2 (fun j hj=>hok j (List.mem_range.1 hj))]
  rfl
 have hlt:i<fs.length:=by simpa using hlt
 obtain⟨p,o,h1,h2⟩:=hxP.at hlt
 have hgd:fs.getD i flt0=fs[i]:=by rw[List.getD_eq_getElem?_getD,List.getElem?_eq_getElem hlt];rfl
 generalize hf:fs[i]=f at*
 refine bindO_i (eIA_some h1) ?_
 simp only[zP_ptr]
 refine bindO_i (eLd_some h2) ?_
 refine⟨_,_,_,rfl,?_⟩
 refine letP_i fun M35 hM35=>?_
 subst hM35
 refine bindO_i (eSt_some (flt_st f (get_new P (.cells (fltC flt0) true)) rfl)) ?_
 rw[Mem.new_put]
 have hP1:=Keep.new hkP.wf (.cells (fltC f) true)
 have hf1:=get_new P (.cells (fltC f) true)
 generalize P.new (.cells (fltC f) true)=P1 at hP1 hf1
 have hx1:FltsAt P1 x fs:=SlAt.keep0 hxP hkP.wf hP1
 have hg1:=(hkP.trans0 hP1).get hk.wf hgN (by simp)
 have hkN1:=hkP.trans0 hP1
 have hall1:=hall.trans0 hP1
 obtain⟨m0,m1,m2,_⟩:=flt_ld hf1
 obtain⟨g0,_⟩:=geo_ld hg1
 have bad:okF g (fs.take i) f=false→mayP g fs=false:=fun h=>by
  unfold mayP
  rw[List.all_eq_false.2 ⟨i,List.mem_range.2 hlt,by rw[hgd,h];simp⟩,Bool.and_false]
 refine letP_i fun K hKK=>?_
 have step:∀ b:Bool,b=restF g f→K b:=by
  intro b hb
  rw[hKK]
  refine condB_i (fun h=>⟨?_,hall1⟩) (fun h=>?_)
  ·rw[bad (by rw[okF_eq,← hb,h,Bool.or_true];rfl)]
  refine⟨fun z n Q=>∃ k:Nat,z=k∧n=i-k∧k≤i∧Q=P1∧∀ (j:Nat) (hj:j<fs.length),j<k→fs[j].blk≠f.blk,⟨i,0,rfl,rfl,Nat.zero_le _,rfl,fun j _ h=>by omega⟩,?_⟩
  rintro _ z n Q ⟨k,rfl,rfl,hk',rfl,hne⟩
  refine condB_i (fun hlt2=>?_) (fun hge2=>?_)
  ·have hlt2:k<i:=by simpa using hlt2
   obtain⟨p',o',q1,q2,_,_⟩:=hx1.fields (i:=k) (by omega)
   refine bindO_i (eIA_some q1) ?_
   simp only[zP_ptr]
   refine bindO_i (eLd_some q2) ?_
   simp only[i64,zI_int]
   refine bindO_i (eLd_some m0) ?_
   simp only[i64,zI_int]
   refine condB_i (fun he=>⟨?_,hall1⟩) (fun he=>?_)
   ·have he:fs[k].blk=f.blk:=by simpa using he
    have hfind:(findF (fs.take i) f.blk).isSome=true:=by
     unfold findF
     rw[List.find?_isSome]
     refine⟨fs[k],?_,by simp[he]⟩
     rw[List.mem_iff_getElem]
     exact⟨k,by rw[List.length_take];omega,by rw[List.getElem_take]⟩
    rw[bad (by rw[okF_eq,hfind,Bool.true_or];rfl)]
   ·have he:fs[k].blk≠f.blk:=by simpa using he
    refine⟨i-(k+1),by omega,k+1,iInc (by omega),rfl,hlt2,by trivial,fun j hj hjk=>?_⟩
    by_cases e:j=k
    ·subst e;exact he
    ·exact hne j hj (by omega)
  ·have hge2:k=i:=by have:¬ (k:Int)<i:=by simpa using hge2
                     omega
   subst hge2
   have hfind:(findF (fs.take k) f.blk).isSome=false:=by
    unfold findF
    rw[Option.isSome_eq_false_iff,Option.isNone_iff_eq_none,List.find?_eq_none]
    intro f' hf'
    obtain⟨j,hj,rfl⟩:=List.getElem_of_mem hf'
    rw[List.length_take] at hj
    rw[List.getElem_take]
    simpa using hne j (by omega) (by omega)
   refine⟨fs.length-(k+1),by omega,k+1,iInc (by omega),rfl,hlt,hkN1,fun j hj=>?_⟩
   by_cases hji:j=k
   ·subst hji
    rw[hgd,okF_eq,hfind,← hb,h];rfl
   ·exact hok j (by omega)
 unfold restF at step
 refine bindO_i (eLd_some m0) ?_
 simp only[i64,zI_int]
 refine condB_i (fun q=>step true (by rw[q];rfl)) (fun q=>?_)
 rw[q,Bool.false_or] at step
 refine bindO_i (eLd_some m0) ?_
 simp only[i64,zI_int]
 refine bindO_i (eLd_some g0) ?_
 simp only[i64,zI_int]
 refine condB_i (fun q=>step true (by rw[q];rfl)) (fun q=>?_)
 rw[q,Bool.false_or] at step
 refine bindO_i (eLd_some m2) ?_
 simp only[i64,zI_int]
 refine condB_i (fun q=>step true (by rw[q];rfl)) (fun q=>?_)
 rw[q,Bool.false_or] at step
 refine bindO_i (eLd_some m2) ?_
 simp only[i64,zI_int]
 refine condB_i (fun q=>step true (by rw[q];rfl)) (fun q=>?_)
 rw[q,Bool.false_or] at step
 refine bindO_i (eLd_some m1) ?_
 simp only[zB_bool]
 refine condB_i (fun q=>?_) (fun q=>step false (by rw[q];rfl))
 rw[q,Bool.true_and] at step
 refine bindO_i (eLd_some m2) ?_
 simp only[i64,zI_int]
 exact step _ rfl
def fewF(g:Geo)(fs:List Flt):Bool:=decide ((fs.length:Int)≤8)&&(mayP g fs&&decide ((fs.length:Int)≤g.sp))
theorem FltsAt.keep0{M N:Mem}{x:AV}{fs:List Flt}(h:FltsAt M x fs)(hw:M.WF)(hk:Keep M N []):FltsAt N x fs:=SlAt.keep0 h hw hk
theorem l_may9(M:Mem)(hw:M.WF)(g:Geo)(x:AV)(fs:List Flt)(hx:FltsAt M x fs)(hfl:fs.length≤9223372036854775807):
 CallA tb.P 9 [geoA g,x] M fun y N=>y= .val (.bool (fewF g fs))∧Keep M N []:=by
 refine F9_ok ?_
 unfold F9
 refine⟨_,_,_,_,_,rfl,?_⟩
 refine letP_i fun M6 hM6=>?_
 have hM6:M6=M.new (.cells (geoC g) true):=hM6
 have hk6:Keep M M6 []:=by rw[hM6];exact Keep.new hw _
 have hbox:M6.get M.next=some (.cells (geoC g) true):=by rw[hM6];exact get_new _ _
 have hx6:=hx.keep0 hw hk6
 refine letP_i fun K hK=>?_
 refine bindO_i (eLen_some hx6.len) ?_
 simp only[zI_int]
 refine condB_i (fun h=>?_) (fun h=>?_)
 ·obtain⟨_,_,_,_,_,l5⟩:=geo_ld hbox
  refine bindO_i (eLd_some l5) ?_
  refine⟨_,_,_,_,_,rfl,?_⟩
  refine (r_mayP M6 hk6.wf g x fs hx6 hfl).mono ?_
  rintro y N ⟨rfl,hk⟩
  simp only[zB_bool]
  cases hq:mayP g fs with
  | false=>
    rw[condB_false,hK]
    exact⟨by unfold fewF;rw[h,hq];rfl,hk6.trans0 hk⟩
  | true=>
    rw[condB_true]
    have hx7:=hx6.keep0 hk6.wf hk
    refine bindO_i (eLen_some hx7.len) ?_
    simp only[zI_int]
    obtain⟨_,_,_,l3,_,_⟩:=geo_ld (hk.get hk6.wf hbox (by simp))
    refine bindO_i (eLd_some l3) ?_
    simp only[i64,zI_int]
    rw[hK]
    exact⟨by unfold fewF;rw[h,hq,Bool.true_and,Bool.true_and],hk6.trans0 hk⟩
 ·rw[hK]
  exact⟨by unfold fewF;rw[h,Bool.false_and],hk6⟩
theorem l_logical13(M:Mem)(hw:M.WF)(g:Geo)(hg:mayG g=true):CallA tb.P 13 [geoA g] M fun y N=>y=i64 (logG g)∧Keep M N []:=by
 have hm:=mayG_iff.1 hg
 refine F13_ok ?_
 unfold F13
 refine⟨_,_,_,_,_,rfl,?_⟩
 refine letP_i fun M6 hM6=>?_
 have hM6:M6=M.new (.cells (geoC g) true):=hM6
 have hk6:Keep M M6 []:=by rw[hM6];exact Keep.new hw _
 have hbox:M6.get M.next=some (.cells (geoC g) true):=by rw[hM6];exact get_new _ _
 obtain⟨_,_,_,_,_,l5⟩:=geo_ld hbox
 refine bindO_i (eLd_some l5) ?_
 refine⟨_,_,_,_,_,rfl,?_⟩
 refine (l_may22 M6 hk6.wf g).mono ?_
 rintro y N ⟨rfl,hk⟩
 simp only[zB_bool,hg,Bool.not_true,condB_false]
 have hbox':=hk.get hk6.wf hbox (by simp)
 obtain⟨_,_,_,_,_,l5⟩:=geo_ld hbox'
 refine bindO_i (eLd_some l5) ?_
 refine⟨_,_,_,_,_,rfl,?_⟩
 have hkN:=hk6.trans0 hk
 clear hM6
 refine F50_ok ?_
 unfold F50
 refine⟨_,_,_,_,_,rfl,?_⟩
 simp only[letP_eq]
 have hg5:=get_new N (.cells (geoC g) true)
 obtain⟨q0,q1,q2,q3,q4,_⟩:=geo_ld hg5
 have hK:=Keep.new hk.wf (.cells (geoC g) true)
 refine bindO_i (eLd_some q0) ?_
 simp only[i64,zI_int]
 refine bindO_i (eLd_some q3) ?_
 simp only[i64,zI_int]
 refine bindO_i (eLd_some q1) ?_
 simp only[i64,zI_int]
 refine bindO_i (max_int _ _ _) ?_
 simp only[zI_int]
 obtain⟨e,hb1,hb2⟩:=half_eq ⟨hm.1.1,hm.1.2⟩ ⟨hm.2.1.1,hm.2.1.2⟩ ⟨hm.2.2.2.1.1,hm.2.2.2.1.2⟩
 refine⟨?_,hkN.trans0 hK⟩
 unfold logG
 rw[e,show max ((g.bl-g.sp-3)*g.pg-4) 0=(g.bl-g.sp-3)*g.pg-4 by omega]
theorem pg_congr{f h:Int→Option Dat}{n:Nat}(e:∀ i:Nat,i<n→(f i).isSome=(h i).isSome):pgN f n=pgN h n:=by
 unfold pgN
 refine List.filter_congr fun z hz=>?_
 obtain⟨i,hi,rfl⟩:=List.mem_map.1 hz
 exact e i (List.mem_range.1 hi)
section
variable {M0:Mem} {g:Geo} {k n:Int} {A:Adr} {M:Mem} {S:Ps} {P:Int→Option (Option Dat)} {B:Int→Option Dat}
end
def F4(a0 a1 a2:AV)(M:Mem)(Q:AV→Mem→Prop):Prop:=∃ t u v w x:Int,a0=(.agg [t,u,v,w,x])∧zI .i64 a2 fun Z=>letP (M.new (.cells [t,u,v,w,x] true)) fun y=>bindO (eLd tb 23 (.ptr M.next 0) y) fun c0=>∃ z A B C D:Int,c0.1=(.agg [z,A,B,C,D])∧(CallA tb.P 9 [(.agg [z,A,B,C,D]),a1] y fun d0 n=>zB d0 fun e0=>condB (!e0) (CallA tb.P 10 [] n fun f0 g0=>zB f0 fun h0=>Q h0 g0) (bindO (eLd tb 23 (.ptr M.next 0) n) fun j0=>∃ E F G H I:Int,j0.1=(.agg [E,F,G,H,I])∧(CallA tb.P 19 [(.agg [E,F,G,H,I]),a1] n fun l0 k=>∃ (o:AV) (e:AV) (f:AV),l0=(.tup [o,e,f])∧(letP (fun (m0:Bool)=>condB (m0) (Q false k) (CallA tb.P 20 [e] k fun n0 g=>zI .i64 n0 fun J=>bindO (eNil f g) fun o0=>bindO (eFA tb 47 o0.1 0 g) fun r0=>zP r0.1 fun t0 u0=>bindO (eLd tb 25 (.ptr t0 u0) g) fun v0=>bindO (eLen tb false 25 v0.1 g) fun w0=>zI .i64 w0.1 fun x0=>condB (J != x0) (Q false g) (∃ p:Int→Nat→Mem→Prop,(∃ y0:Nat,p (0:Int) y0 g)∧∀ (_:Nat→Option AV) (j:Int) (K:Nat) (L:Mem),p j K L→(CallA tb.P 14 [Z,(6:Int)] L fun z0 h=>zI .i64 z0 fun A0=>condB (decide (j≤A0)) (∃ r:Int→Nat→Mem→Prop,(∃ B0:Nat,r (0:Int) B0 h)∧∀ (_:Nat→Option AV) (d:Int) (N:Nat) (l:Mem),r d N l→(condB (decide (d<J)) (bindO (eLd tb 3 (.ptr M.next 2) l) fun C0=>zI .i64 C0.1 fun D0=>CallA tb.P 16 [(.val (.int .u8 (IntKind.wrap .u8 (iAdd .i64 j d)))),D0] l fun E0 F0=>CallA tb.P 15 [e,d,E0] F0 fun G0 i=>zI .i64 G0 fun H0=>condB (H0 != (0:Int)) (Q false i) (bindO (eNil f i) fun I0=>bindO (eFA tb 47 I0.1 0 i) fun J0=>zP J0.1 fun K0 L0=>bindO (eLd tb 25 (.ptr K0 L0) i) fun N0=>bindO (eIA tb 25 N0.1 d i) fun O0=>zP O0.1 fun P0 R0=>bindO (eSt tb 3 (.ptr P0 R0) (iAdd .i64 j d) i) fun S0=>∃ O:Nat,O<N∧(r (iAdd .i64 d 1) O S0.2))) (letP (fun (T0:Bool) (R:Mem)=>condB (T0) (Q false R) (∃ S:Nat,S<K∧(p (iAdd .i64 j 1) S R))) fun T=>CallA tb.P 17 [e] l fun U0 U=>zI .i64 U0 fun V0=>condB (V0 != (0:Int)) (T true U) (CallA tb.P 21 [e] U fun W0 X0=>zB W0 fun Y0=>T Y0 X0)))) (bindO (eNil f h) fun Z0=>bindO (eFA tb 47 Z0.1 0 h) fun c1=>zP c1.1 fun d1 e1=>bindO (eLd tb 25 (.ptr d1 e1) h) fun f1=>bindO (eLd tb 3 (.ptr M.next 2) h) fun g1=>zI .i64 g1.1 fun h1=>CallA tb.P 18 [e,f1.1,h1] h fun j1 V=>zB j1 fun l1=>condB (!l1) (Q false V) (CallA tb.P 12 [o] V fun m1 c=>∃ (s:AV) (W:Int),m1=(.tup [s,W])∧(letP (fun (n1:Bool) (o1:Mem)=>Q n1 o1) fun m=>condB (W==(0:Int)) (bindO (eBin tb .neq 30 (.tmp 97) (.const (.pointer none)) s (.val (.pointer none)) c) fun r1=>zB r1.1 fun t1=>condB (t1) (bindO (eNil f c) fun u1=>bindO (eFA tb 47 u1.1 0 c) fun v1=>zP v1.1 fun w1 x1=>bindO (eLd tb 25 (.ptr w1 x1) c) fun y1=>bindO (eLd tb 3 (.ptr M.next 2) c) fun A1=>zI .i64 A1.1 fun B1=>CallA tb.P 18 [s,y1.1,B1] c fun C1 X=>zB C1 fun D1=>condB (D1) (CallA tb.P 10 [] X fun E1 F1=>zB E1 fun G1=>m G1 F1) (m false X)) (m false c)) (m false c)))))))) fun Y=>bindO (eBin tb .eql 28 (.tmp 27) (.const (.pointer none)) o (.val (.pointer none)) k) fun H1=>zB H1.1 fun I1=>condB (I1) (Y true) (bindO (eBin tb .eql 42 (.tmp 30) (.const (.pointer none)) f (.val (.pointer none)) k) fun J1=>zB J1.1 fun K1=>Y K1)))))
section
variable {N:Mem} {A:Adr} {q bu bw:Nat} {us ws:List Int} {x:AV} {b:Bool}
end
theorem nil_ne30{p:Nat}{M:Mem}{xo yo:Operand}:eBin tb .neq 30 xo yo (.ptr p 0) (.val (.pointer none)) M=some (.val (.bool true),M):=eBin_some (by kernel_rfl)
section
variable {M0:Mem} {g:Geo} {k n:Int} {A:Adr} {M:Mem} {S:Ps} {P:Int→Option (Option Dat)} {B:Int→Option Dat}
theorem ls_degraded(h:LF M0 g k n A M S P B):CallA tb.P 21 [.ptr A.f 0] M fun y N=>y= .val (.bool false)∧N=M:=by
 refine F21_ok ?_
 unfold F21
 refine letP_i fun K hK=>?_
 refine bindO_i nil_ne30 ?_
 simp only[zB_bool,condB_true]
 refine bindO_i eNil_ptr ?_
 refine bindO_i fa_dg ?_
 rw[zP_ptr]
 refine bindO_i h.fm.ldg ?_
 simp only[zB_bool]
 rw[hK,h.deg]
 exact⟨rfl,rfl⟩
end
section
variable {M0:Mem} {g:Geo} {k n:Int} {A:Adr} {M:Mem} {S:Ps} {P:Int→Option (Option Dat)} {B:Int→Option Dat}
theorem LF.base0{M1:Mem}(h:LF M1 g k n A M S P B)(hk:Keep M0 M1 []):LF M0 g k n A M S P B:=
 { h with ge:=fun c hc=>Nat.le_trans hk.nxt (h.ge c hc),nx:=Nat.le_trans hk.nxt h.nx,low:=fun c hc=>(h.low c (Nat.lt_of_lt_of_le hc hk.nxt)).trans (hk.old c hc (by simp)) }
end
theorem lost_few{g:Geo}{fs:List Flt}(h:(fs.length:Int)≤g.sp):(lostN (newPs g fs):Int)≤g.sp:=by
 have:=lostN_le (newPs g fs)
 have e:(newPs g fs).fs=fs:=rfl
 rw[e] at this
 omega
theorem few_of{g:Geo}{fs:List Flt}(h:fewF g fs=true):mayG g=true∧mayP g fs=true∧(fs.length:Int)≤g.sp:=by
 unfold fewF at h
 simp only[Bool.and_eq_true,decide_eq_true_eq] at h
 refine⟨?_,h.2.1,h.2.2⟩
 have:=h.2.1
 unfold mayP at this
 simp only[Bool.and_eq_true] at this
 exact this.1.1
def F8(a0 a1 a2 a3:AV)(M:Mem)(Q:AV→Mem→Prop):Prop:=∃ J K L N O:Int,a0=(.agg [J,K,L,N,O])∧∃ R S T U V:Int,a1=(.agg [R,S,T,U,V])∧letP (M.new (.cells [J,K,L,N,O] true)) fun f=>letP (f.new (.cells [R,S,T,U,V] true)) fun m=>letP (fun (X0:Bool) (r:Mem)=>condB (X0) (CallA tb.P 10 [] r fun Y0 Z0=>zB Y0 fun c1=>Q c1 Z0) (bindO (eLd tb 23 (.ptr M.next 0) r) fun d1=>∃ W X Y Z c0:Int,d1.1=(.agg [W,X,Y,Z,c0])∧(CallA tb.P 11 [(.agg [W,X,Y,Z,c0]),a2] r fun e1 f1=>CallA tb.P 12 [e1] f1 fun g1 d0=>∃ (g:AV) (e0:Int),g1=(.tup [g,e0])∧(bindO (eLd tb 23 (.ptr f.next 0) d0) fun h1=>∃ f0 g0 h0 j0 l0:Int,h1.1=(.agg [f0,g0,h0,j0,l0])∧(CallA tb.P 11 [(.agg [f0,g0,h0,j0,l0]),(.val (.slice none 0 0))] d0 fun j1 l1=>CallA tb.P 12 [j1] l1 fun m1 i=>∃ (h:AV) (m0:Int),m1=(.tup [h,m0])∧(letP (fun (n1:Bool)=>condB (n1) (Q false i) (bindO (eLd tb 23 (.ptr M.next 0) i) fun o1=>∃ n0 o0 r0 t0 u0:Int,o1.1=(.agg [n0,o0,r0,t0,u0])∧(bindO (eLd tb 23 (.ptr f.next 0) i) fun r1=>∃ s t u v w:Int,r1.1=(.agg [s,t,u,v,w])∧(CallA tb.P 13 [(.agg [n0,o0,r0,t0,u0])] i fun t1 v0=>zI .i64 t1 fun u1=>(bindO (eLd tb 23 (.ptr f.next 0) v0) fun v1=>(some (.agg [s,t,u,v,w]):Option AV)=some v1.1)∧(CallA tb.P 13 [(.agg [s,t,u,v,w])] v0 fun w1 w0=>zI .i64 w1 fun x1=>bindO (eMin tb #[3,3] 3 [.int .i64 u1,.int .i64 x1] w0) fun y1=>zI .i64 y1.1 fun A1=>∃ x:Int→Nat→Mem→Prop,(∃ B1:Nat,x (0:Int) B1 w0)∧∀ (_:Nat→Option AV) (n:Int) (x0:Nat) (c:Mem),x n x0 c→(bindO (eLen tb false 59 a3 c) fun C1=>zI .i64 C1.1 fun D1=>condB (decide (n<D1)) (bindO (eIA tb 59 a3 n c) fun E1=>zP E1.1 fun F1 G1=>bindO (eLd tb 64 (.ptr F1 G1) c) fun H1=>∃ y0 z0 A0 B0 C0 D0:Int,H1.1=(.agg [y0,z0,(.val (.int .u8 A0)),B0,C0,(.val (.int .u8 D0))])∧(letP (c.new (.cells [(0:Int),(0:Int),(.val (.int .u8 0)),(0:Int),(0:Int),(.val (.int .u8 0))] true)) fun I1=>bindO (eSt tb 64 (.ptr c.next 0) (.agg [y0,z0,(.val (.int .u8 A0)),B0,C0,(.val (.int .u8 D0))]) I1) fun E0=>bindO (eLd tb 3 (.ptr c.next 1) E0.2) fun J1=>zI .i64 J1.1 fun K1=>CallA tb.P 14 [K1,A1] E0.2 fun L1 d=>zI .i64 L1 fun j=>bindO (eLd tb 3 (.ptr c.next 0) d) fun N1=>zI .i64 N1.1 fun o=>letP (fun (O1:Int) (P1:Int) (F0:Mem)=>letP (fun (R1:Bool) (G0:Mem)=>condB (R1) (Q false G0) (∃ H0:Nat,H0<x0∧(x (iAdd .i64 n 1) H0 G0))) fun I0=>condB (O1 != P1) (I0 true F0) (CallA tb.P 29 [g] F0 fun S1 T1=>CallA tb.P 29 [h] T1 fun U1 V1=>CallA tb.P 28 [S1,U1] V1 fun W1 X1=>zB W1 fun Y1=>I0 (!Y1) X1)) fun k=>condB (o==(0:Int)) (bindO (eLd tb 5 (.ptr c.next 2) d) fun Z1=>zI .u8 Z1.1 fun c2=>bindO (eLd tb 3 (.ptr M.next 2) d) fun d2=>zI .i64 d2.1 fun e2=>bindO (eLd tb 5 (.ptr c.next 2) d) fun f2=>zI .u8 f2.1 fun y=>bindO (eLd tb 3 (.ptr f.next 2) d) fun g2=>zI .i64 g2.1 fun z=>CallA tb.P 16 [(.val (.int .u8 c2)),e2] d fun h2 A=>(bindO (eLd tb 5 (.ptr c.next 2) A) fun j2=>(some (.val (.int .u8 y)):Option AV)=some j2.1)∧(bindO (eLd tb 3 (.ptr f.next 2) A) fun l2=>(some z:Option AV)=some l2.1)∧(CallA tb.P 15 [g,j,h2] A fun m2 B=>zI .i64 m2 fun n2=>(bindO (eLd tb 5 (.ptr c.next 2) B) fun o2=>(some (.val (.int .u8 y)):Option AV)=some o2.1)∧(bindO (eLd tb 3 (.ptr f.next 2) B) fun r2=>(some z:Option AV)=some r2.1)∧(CallA tb.P 16 [(.val (.int .u8 y)),z] B fun t2 u2=>CallA tb.P 15 [h,j,t2] u2 fun v2 w2=>zI .i64 v2 fun x2=>k n2 x2 w2))) (condB (o==(1:Int)) (CallA tb.P 27 [g,j] d fun y2 A2=>zI .i64 y2 fun B2=>CallA tb.P 27 [h,j] A2 fun C2 D2=>zI .i64 C2 fun E2=>k B2 E2 D2) (condB (o==(2:Int)) (CallA tb.P 17 [g] d fun F2 G2=>zI .i64 F2 fun H2=>CallA tb.P 17 [h] G2 fun I2 J2=>zI .i64 I2 fun K2=>k H2 K2 J2) (condB (o==(5:Int)) (CallA tb.P 30 [g,j] d fun L2 N2=>∃ (C:AV) (D:Int),L2=(.tup [C,D])∧(CallA tb.P 30 [h,j] N2 fun O2 e=>∃ (E:AV) (F:Int),O2=(.tup [E,F])∧(letP (fun (P2:Bool)=>condB (P2) (Q false e) (k D F e)) fun l=>condB (D==(0:Int)) (condB (F==(0:Int)) (bindO (eLen tb false 37 C e) fun R2=>zI .i64 R2.1 fun S2=>bindO (eLd tb 3 (.ptr M.next 2) e) fun T2=>zI .i64 T2.1 fun U2=>condB (S2 != U2) (l true) (bindO (eLen tb false 37 E e) fun V2=>zI .i64 V2.1 fun W2=>bindO (eLd tb 3 (.ptr f.next 2) e) fun X2=>zI .i64 X2.1 fun Y2=>condB (W2 != Y2) (l true) (bindO (eIA tb 37 C (0:Int) e) fun Z2=>zP Z2.1 fun c3 d3=>bindO (eIA tb 37 E (0:Int) e) fun e3=>zP e3.1 fun f3 g3=>bindO (eLd tb 5 (.ptr c3 d3) e) fun h3=>zI .u8 h3.1 fun j3=>bindO (eLd tb 5 (.ptr f3 g3) e) fun l3=>zI .u8 l3.1 fun m3=>l (j3 != m3)))) (l false)) (l false)))) (k (0:Int) (0:Int) d)))))) (letP (fun (n3:Bool) (o3:Mem)=>Q n3 o3) fun G=>CallA tb.P 21 [g] c fun r3 J0=>zB r3 fun t3=>condB (!t3) (CallA tb.P 21 [h] J0 fun u3 K0=>zB u3 fun v3=>condB (!v3) (CallA tb.P 10 [] K0 fun w3 x3=>zB w3 fun y3=>G y3 x3) (G false K0)) (G false J0)))))))) fun p=>condB (e0 != (0:Int)) (p true) (condB (m0 != (0:Int)) (p true) (bindO (eBin tb .eql 30 (.tmp 58) (.const (.pointer none)) g (.val (.pointer none)) i) fun A3=>zB A3.1 fun B3=>condB (B3) (p true) (bindO (eBin tb .eql 30 (.tmp 62) (.const (.pointer none)) h (.val (.pointer none)) i) fun C3=>zB C3.1 fun D3=>p D3))))))))) fun H=>bindO (eLen tb false 59 a3 m) fun E3=>zI .i64 E3.1 fun F3=>condB (decide (F3>(40:Int))) (H true m) (bindO (eLd tb 23 (.ptr M.next 0) m) fun G3=>∃ L0 N0 O0 P0 R0:Int,G3.1=(.agg [L0,N0,O0,P0,R0])∧(CallA tb.P 9 [(.agg [L0,N0,O0,P0,R0]),a2] m fun H3 I=>zB H3 fun I3=>condB (!I3) (H true I) (bindO (eLd tb 23 (.ptr f.next 0) I) fun J3=>∃ S0 T0 U0 V0 W0:Int,J3.1=(.agg [S0,T0,U0,V0,W0])∧(CallA tb.P 22 [(.agg [S0,T0,U0,V0,W0])] I fun K3 L3=>zB K3 fun N3=>H (!N3) L3))))
theorem F8_ok{a0 a1 a2 a3 M Q}(h:F8 a0 a1 a2 a3 M Q):CallA tb.P 8 [a0,a1,a2,a3] M Q:=qk4 (f:=Tryz.f8) (qC (.seq (qD [sN,sI,sB,sZ,sE,sN,sB,sB,sN,sZ,sE,sB,sB] (.cnd (qE [sB]) .z)) (qD [sE,sN,sN,.tup [.l .any,.l (.int .i64)],sN,sN,sI] (qD [sE,sN,.tup [.l .any,.l (.int .i64)],sN,sN,sI] (.seq (qF [sN,sB,sZ,sN,sB,sN,sZ,sN,sB,sN,sZ,sN,sB]) (.seq (.opn [(0,[]),(2,[]),(1,[2]),(3,[]),(4,[]),(5,[])] [] [[],[2]] 0 [sE,sE,sI,sI,sI,sN]) (.seq (qC (.blk (.lop [(14,.int .i64)] ([8]++qn 15 22++qn 70 173) (.seq (qD [sN,sN,sI,sB] qG) (.seq (.blk (qD [sN,sN,sP,.agg [.int .i64,.int .i64,.int .u8,.int .i64,.int .i64,.int .u8]] (qD [sP,sI,sN,sI] (qC (.seq (qD [sP,sI] (.blk (qD [sB] (.cnd (.opn [(0,[]),(1,[]),(2,[]),(4,[]),(8,[]),(9,[]),(10,[]),(12,[]),(3,[]),(5,[]),(11,[]),(13,[]),(6,[11,13]),(7,[11,13]),(14,[]),(15,[]),(16,[]),(17,[])] [] [[],[],[],[],[],[],[11,13],[11,13]] 0 [sN,sN,sP,sP,sN,sN,sP,sP,sU,sI,sU,sI,sN,sI,sN,sI,sN,sN]) (qD [sB] (.cnd (.reg [sN,sN,sI,sN,sN,sI]) (qD [sB] (.cnd (.reg [sN,sI,sN,sI]) (qD [sB] (.cnd (qD [sN,sN,.tup [.l .any,.l (.int .i64)],sN,sN,sI] (qD [sN,sN,.tup [.l .any,.l (.int .i64)],sN,sN,sI] (qC (.seq (.opn (qo (qn 0 7++[9,8,10,11,12,13,15,14]++qn 16 21++[23,24,22,25,26,27,28])) [] [] 0 [sN,sB,sZ,sN,sB,sN,sZ,sN,sP,sI,sI,sB,sZ,sN,sP,sI,sI,sB,sN,sZ,sN,sP,sN,sP,sU,sU,sB,sN,sN]) (.cnd qB .z))))) .z)))))))))) (qF [sN,sN,sB,sZ,sN,sN,sN,sN,sB,sB])))))) (.reg [sN,sI])))))) (qE [sN,sB,sB,sZ,sN,sB,sB,sN,sZ,sB])))))))) [.a [.int .i64,.int .i64,.int .i64,.int .i64,.int .i64],.a [.int .i64,.int .i64,.int .i64,.int .i64,.int .i64],.l .any,.l .any] rfl (by kernel_rfl) (by kernel_rfl) (by kernel_rfl) h
structure TAct where
 w:Int
 p:Int
 v:BitVec 8
 x:Int
 y:Int
 z:BitVec 8
def tacC(a:TAct):List AV:=[i64 a.w,i64 a.p,bv8 a.v,i64 a.x,i64 a.y,bv8 a.z]
theorem tacC_len(a:TAct):(tacC a).length=6:=rfl
def TacsAt(M:Mem)(x:AV)(l:List TAct):Prop:=SlAt 6 M x l.length (l.flatMap tacC)
theorem ty59:∃ ti,tb.ty.get 59=some ti∧ti.k= .sli 64:=⟨⟨.sli 64,1,24,[.slice none 0 0],none⟩,by kernel_rfl,rfl⟩
theorem ty64:∃ ti,tb.ty.get 64=some ti∧ti.size=6∧ti.isAgg=true:=by
 have h:(match tb.ty.get 64 with|some ti=>Nat.beq ti.size 6&&ti.isAgg|none=>false)=true:=by kernel_rfl
 cases e:tb.ty.get 64 with
 | none=>rw[e] at h;cases h
 | some ti=>
   rw[e] at h
   rw[Bool.and_eq_true] at h
   exact⟨ti,rfl,Nat.eq_of_beq_eq_true h.1,h.2⟩
theorem TacsAt.len{M M':Mem}{x:AV}{l:List TAct}(h:TacsAt M x l):evLenCap tb false 59 x M'=some l.length:=by
 obtain⟨ti,h1,h2⟩:=ty59
 exact SlAt.len h h1 h2
theorem TacsAt.at{M:Mem}{x:AV}{l:List TAct}(h:TacsAt M x l){i:Nat}(hi:i<l.length):
 ∃ b o,evIndexAddr tb 59 x (.val (.int .i64 (i:Int)))=some (.ptr b o)∧evLoad tb 64 (.ptr b o) M=some (.agg (tacC l[i])):=by
 obtain⟨ti,h1,h2⟩:=ty59
 obtain⟨tj,k1,k2,k3⟩:=ty64
 obtain⟨b,o,q1,q2⟩:=SlAt.ldAgg h h1 h2 k1 k2 k3 hi (k':= .i64)
 rw[flat_at tacC_len hi] at q2
 exact⟨b,o,q1,q2⟩
theorem TacsAt.keep0{M N:Mem}{x:AV}{l:List TAct}(h:TacsAt M x l)(hw:M.WF)(hk:Keep M N []):TacsAt N x l:=SlAt.keep0 h hw hk
theorem act_st{M:Mem}{b:Nat}{cs:List AV}(a:TAct)(hg:M.get b=some (.cells cs true))(hl:cs.length=6):evStore tb 64 (.ptr b 0) (.agg (tacC a)) M=some (M.put b (.cells (tacC a) true)):=by
 obtain⟨tj,k1,k2,k3⟩:=ty64
 exact st_all k1 k2 hg hl (by intro v hv;simp only[tacC,List.mem_cons,List.not_mem_nil,or_false] at hv;rcases hv with rfl|rfl|rfl|rfl|rfl|rfl <;> rfl)
section
variable {M0:Mem} {g:Geo} {k n:Int} {A:Adr} {M:Mem} {S:Ps} {P:Int→Option (Option Dat)} {B:Int→Option Dat}
theorem LF.besides{N:Mem}{T:List Nat}(h:LF M0 g k n A M S P B)(hk:Keep M N T)(hT:∀ c∈T,c∈A.ext∧c∉A.all∧M0.next≤c):LF M0 g k n A N S P B:=
 { h with fm:=h.fm.keepX hk (fun c hc=>⟨(hT c hc).1,(hT c hc).2.1⟩),ext:=fun c hc=>Nat.lt_of_lt_of_le (h.ext c hc) hk.nxt,nx:=Nat.le_trans h.nx hk.nxt,low:=low_step h.low h.nx (fun c hc=>(hT c hc).2.2) hk }
theorem LF.aside2{N:Mem}{T0 T:List Nat}(h:LF M0 g k n A M S P B)(hk:Keep M N T0)(hT0:∀ c∈T0,c∈A.ext∧c∉A.all∧M0.next≤c)(hT:∀ c∈T,M.next≤c∧c<N.next):LF M0 g k n { A with ext:=T++A.ext } N S P B:=
 { (h.besides hk hT0) with fm:=(h.fm.aside fun c hc=>(hT c hc).1).keepX hk (fun c hc=>⟨List.mem_append.2 (.inr (hT0 c hc).1),(hT0 c hc).2.1⟩),ext:=fun c hc=>(List.mem_append.1 hc).elim (fun hc=>(hT c hc).2) (fun hc=>Nat.lt_of_lt_of_le (h.ext c hc) hk.nxt),ge:=h.ge }
end
def Alk(L:Int)(n1 n2:Nat)(f1 f2:Int→Option Dat):Prop:=∀ z:Int,0≤z→(f1 z=none∧f2 z=none)∨(z<L∧∃ v:Int,f1 z=some (datF v n1)∧f2 z=some (datF v n2))
structure TW (M0:Mem) (g1 g2:Geo) (L k n:Int) (A1 A2:Adr) (M:Mem) (S1 S2:Ps) (P1 P2:Int→Option (Option Dat)) (B1 B2:Int→Option Dat):Prop where
 f1:LF M0 g1 k n A1 M S1 P1 B1
 f2:LF M0 g2 k n A2 M S2 P2 B2
 x12:∀ c∈A1.all,c∈A2.ext
 x21:∀ c∈A2.all,c∈A1.ext
 dis:∀ c∈A1.all,c∉A2.all
 alk:Alk L g1.by'.toNat g2.by'.toNat (ovl P1 B1) (ovl P2 B2)
section
variable {M0:Mem} {g1 g2:Geo} {L k n:Int} {A1 A2:Adr} {M N:Mem} {S1 S2:Ps} {P1 P2:Int→Option (Option Dat)} {B1 B2:Int→Option Dat}
theorem TW.on2(h:TW M0 g1 g2 L k n A1 A2 M S1 S2 P1 P2 B1 B2)(hk:Keep M N A1.all):LF M0 g2 k n A2 N S2 P2 B2:=
 h.f2.besides hk fun c hc=>⟨h.x12 c hc,h.dis c hc,h.f1.ge c hc⟩
theorem on1{k' n':Int}{S1':Ps}{P1':Int→Option (Option Dat)}{B1':Int→Option Dat}(h:TW M0 g1 g2 L k n A1 A2 M S1 S2 P1 P2 B1 B2){M':Mem}(h1:LF M0 g1 k' n' A1 M' S1' P1' B1')(hk:Keep M' N A2.all):LF M0 g1 k' n' A1 N S1' P1' B1':=
 h1.besides hk fun c hc=>⟨h.x21 c hc,fun hm=>h.dis c hm hc,h.f2.ge c hc⟩
theorem TW.keep(h:TW M0 g1 g2 L k n A1 A2 M S1 S2 P1 P2 B1 B2)(hk:Keep M N []):TW M0 g1 g2 L k n A1 A2 N S1 S2 P1 P2 B1 B2:={ h with f1:=h.f1.keep hk,f2:=h.f2.keep hk }
theorem alk_pages{L:Int}{n1 n2 l1 l2:Nat}{f1 f2:Int→Option Dat}(h:Alk L n1 n2 f1 f2)(h1:L≤l1)(h2:L≤l2):pgN f1 l1=pgN f2 l2:=by
 have key:∀ (f f':Int→Option Dat),(∀ z:Int,0≤z→(f z).isSome=(f' z).isSome∧(L≤z→(f z).isSome=false))→∀ l l':Nat,L≤l→l≤l'→pgN f l=pgN f' l':=by
  intro f f' hf l l' hl hll
  induction l' with
  | zero=>
    have:l=0:=by omega
    subst this;rfl
  | succ m ih=>
    by_cases e:l=m+1
    ·subst e
     exact pg_congr fun i _=>(hf i (by omega)).1
    ·rw[pgN_succ,ih (by omega)]
     have h3:=hf m (by omega)
     rw[← h3.1,h3.2 (by omega)]
     simp
 have hs:∀ z:Int,0≤z→(f1 z).isSome=(f2 z).isSome∧(L≤z→(f1 z).isSome=false):=fun z hz=>by
  rcases h z hz with⟨e1,e2⟩|⟨hl,v,e1,e2⟩
  ·rw[e1,e2];exact⟨rfl,fun _=>rfl⟩
  ·rw[e1,e2];exact⟨rfl,fun _=>by omega⟩
 rcases Nat.le_total l1 l2 with hl|hl
 ·exact key f1 f2 hs l1 l2 h1 hl
 ·refine (key f2 f1 (fun z hz=>⟨(hs z hz).1.symm,fun hL=>by rw[← (hs z hz).1];exact (hs z hz).2 hL⟩) l2 l1 h2 hl).symm
theorem alk_upd{L:Int}{n1 n2:Nat}{P1 P2:Int→Option (Option Dat)}{B1 B2:Int→Option Dat}(h:Alk L n1 n2 (ovl P1 B1) (ovl P2 B2)){a:Int}(ha:0≤a∧a<L)(o:Option Int):Alk L n1 n2 (ovl (updN P1 a (o.map fun v=>datF v n1)) B1) (ovl (updN P2 a (o.map fun v=>datF v n2)) B2):=fun z hz=>by
 rw[ovl_upd,ovl_upd]
 by_cases e:z=a
 ·rw[if_pos e,if_pos e]
  cases o with
  | none=>exact .inl ⟨rfl,rfl⟩
  | some v=>exact .inr ⟨by omega,v,rfl,rfl⟩
 ·rw[if_neg e,if_neg e];exact h z hz
end
def F3(a0 a1 a2 a3:AV)(M:Mem)(Q:AV→Mem→Prop):Prop:=∃ x y z A B:Int,a0=(.agg [x,y,z,A,B])∧zI .i64 a3 fun D0=>letP (M.new (.cells [x,y,z,A,B] true)) fun l=>letP (fun (E0:Bool) (p:Mem)=>condB (E0) (CallA tb.P 10 [] p fun F0 G0=>zB F0 fun H0=>Q H0 G0) (bindO (eLd tb 23 (.ptr M.next 0) p) fun I0=>∃ C D E F G:Int,I0.1=(.agg [C,D,E,F,G])∧(CallA tb.P 11 [(.agg [C,D,E,F,G]),a1] p fun H J0=>CallA tb.P 12 [H] J0 fun K0 m=>∃ (i:AV) (I:Int),K0=(.tup [i,I])∧(letP (fun (L0:Bool)=>condB (L0) (Q false m) (bindO (eLd tb 23 (.ptr M.next 0) m) fun N0=>∃ J K L N O:Int,N0.1=(.agg [J,K,L,N,O])∧(CallA tb.P 13 [(.agg [J,K,L,N,O])] m fun O0 P0=>zI .i64 O0 fun R=>bindO (evMakeSlice tb 25 R R P0) fun c=>∃ r:Int→Nat→Mem→Prop,(∃ R0:Nat,r (0:Int) R0 c.2)∧∀ (_:Nat→Option AV) (n:Int) (S:Nat) (j:Mem),r n S j→(bindO (eLen tb false 25 c.1 j) fun S0=>zI .i64 S0.1 fun T0=>condB (decide (n<T0)) (bindO (eIA tb 25 c.1 n j) fun U0=>zP U0.1 fun V0 W0=>bindO (eSt tb 3 (.ptr V0 W0) (-1:Int) j) fun X0=>∃ T:Nat,T<S∧(r (iAdd .i64 n 1) T X0.2)) (∃ s:Int→Nat→Mem→Prop,(∃ Y0:Nat,s (0:Int) Y0 j)∧∀ (_:Nat→Option AV) (g:Int) (U:Nat) (e:Mem),s g U e→(bindO (eLen tb false 25 a2 e) fun Z0=>zI .i64 Z0.1 fun c1=>condB (decide (g<c1)) (bindO (eIA tb 25 a2 g e) fun d1=>zP d1.1 fun e1 f1=>bindO (eLd tb 3 (.ptr e1 f1) e) fun g1=>zI .i64 g1.1 fun h1=>bindO (eLen tb false 25 c.1 e) fun j1=>zI .i64 j1.1 fun l1=>CallA tb.P 14 [h1,l1] e fun m1 V=>zI .i64 m1 fun W=>bindO (eIA tb 25 c.1 W V) fun n1=>zP n1.1 fun o1 r1=>bindO (eSt tb 3 (.ptr o1 r1) g V) fun X=>bindO (eLd tb 3 (.ptr M.next 2) X.2) fun t1=>zI .i64 t1.1 fun u1=>CallA tb.P 16 [(.val (.int .u8 (IntKind.wrap .u8 g))),u1] X.2 fun v1 w1=>CallA tb.P 15 [i,W,v1] w1 fun x1 Y=>zI .i64 x1 fun y1=>condB (y1 != (0:Int)) (Q false Y) (∃ Z:Nat,Z<U∧(s (iAdd .i64 g 1) Z Y))) (CallA tb.P 17 [i] e fun A1 c0=>zI .i64 A1 fun B1=>condB (B1 != (0:Int)) (Q false c0) (∃ t:AV→Int→Nat→Mem→Prop,(∃ C1:Nat,t i (0:Int) C1 c0)∧∀ (_:Nat→Option AV) (d0:AV) (u:Int) (e0:Nat) (f0:Mem),t d0 u e0 f0→(CallA tb.P 14 [D0,(5:Int)] f0 fun D1 v=>zI .i64 D1 fun E1=>condB (decide (u<E1)) (CallA tb.P 12 [H] v fun F1 k=>∃ (f:AV) (g0:Int),F1=(.tup [f,g0])∧(letP (fun (G1:Bool) (h0:Mem)=>condB (G1) (Q false h0) (∃ w:Int→Nat→Mem→Prop,(∃ H1:Nat,w (0:Int) H1 h0)∧∀ (_:Nat→Option AV) (h:Int) (j0:Nat) (d:Mem),w h j0 d→(bindO (eLen tb false 25 c.1 d) fun I1=>zI .i64 I1.1 fun J1=>condB (decide (h<J1)) (letP (fun (K1:Bool) (l0:Mem)=>condB (K1) (Q false l0) (∃ m0:Nat,m0<j0∧(w (iAdd .i64 h 1) m0 l0))) fun n0=>bindO (eIA tb 25 c.1 h d) fun L1=>zP L1.1 fun N1 O1=>bindO (eLd tb 3 (.ptr N1 O1) d) fun P1=>zI .i64 P1.1 fun R1=>condB (decide (R1≥(0:Int))) (bindO (eIA tb 25 c.1 h d) fun S1=>zP S1.1 fun T1 U1=>bindO (eLd tb 3 (.ptr T1 U1) d) fun V1=>zI .i64 V1.1 fun W1=>bindO (eLd tb 3 (.ptr M.next 2) d) fun X1=>zI .i64 X1.1 fun Y1=>CallA tb.P 16 [(.val (.int .u8 (IntKind.wrap .u8 W1))),Y1] d fun Z1 c2=>CallA tb.P 15 [f,h,Z1] c2 fun d2 e2=>zI .i64 d2 fun f2=>n0 (f2 != (0:Int)) e2) (n0 false d)) (CallA tb.P 17 [f] d fun g2 o0=>zI .i64 g2 fun h2=>condB (h2 != (0:Int)) (Q false o0) (∃ r0:Nat,r0<e0∧(t f (iAdd .i64 u 1) r0 o0)))))) fun o=>condB (g0 != (0:Int)) (o true k) (bindO (eBin tb .eql 30 (.tmp 97) (.const (.pointer none)) f (.val (.pointer none)) k) fun j2=>zB j2.1 fun l2=>condB (l2) (o true k) (bindO (eLd tb 3 (.ptr M.next 2) k) fun m2=>zI .i64 m2.1 fun n2=>CallA tb.P 18 [f,c.1,n2] k fun o2 t0=>zB o2 fun r2=>condB (!r2) (o true t0) (CallA tb.P 17 [f] t0 fun t2 u2=>zI .i64 t2 fun v2=>o (v2 != (0:Int)) u2))))) (letP (fun (w2:Bool) (x2:Mem)=>Q w2 x2) fun u0=>bindO (eLd tb 3 (.ptr M.next 2) v) fun y2=>zI .i64 y2.1 fun A2=>CallA tb.P 18 [d0,c.1,A2] v fun B2 v0=>zB B2 fun C2=>condB (C2) (CallA tb.P 10 [] v0 fun D2 E2=>zB D2 fun F2=>u0 F2 E2) (u0 false v0))))))))))) fun w0=>condB (I != (0:Int)) (w0 true) (bindO (eBin tb .eql 30 (.tmp 39) (.const (.pointer none)) i (.val (.pointer none)) m) fun G2=>zB G2.1 fun H2=>w0 H2))))) fun x0=>bindO (eLen tb false 25 a2 l) fun I2=>zI .i64 I2.1 fun J2=>condB (decide (J2>(8:Int))) (x0 true l) (bindO (eLd tb 23 (.ptr M.next 0) l) fun K2=>∃ y0 z0 A0 B0 C0:Int,K2.1=(.agg [y0,z0,A0,B0,C0])∧(CallA tb.P 9 [(.agg [y0,z0,A0,B0,C0]),a1] l fun L2 N2=>zB L2 fun O2=>x0 (!O2) N2))
section
variable {M0:Mem} {g:Geo} {k n:Int} {A:Adr} {M:Mem} {S:Ps} {P:Int→Option (Option Dat)} {B:Int→Option Dat}
theorem LF.keepM(h:LF M0 g k n A M S P B):Keep M0 M []:=⟨h.wf,h.nx,fun b hb _=>h.low b hb⟩
end
section
variable {N:Mem} {A:Adr} {W:Nat} {ws:List Int}
end
theorem bytes_hd{M:Mem}{x:AV}{v:Int}{n:Nat}(h:BytesAt M x (datF v n))(hn:0<n):∃ b o,eIA tb 37 x (.val (.int .i64 0)) M=some (.ptr b o,M)∧eLd tb 5 (.ptr b o) M=some (bv8 (BitVec.ofInt 8 v),M):=by
 have hi:0<(datF v n).length:=by rw[datF_len];exact hn
 obtain⟨b,o,h1,h2⟩:=h.at hi
 refine⟨b,o,eIA_some h1,?_⟩
 rw[eLd_some h2]
 have:(datF v n)[0]=BitVec.ofInt 8 v:=by
  simp[datF]
 rw[this]
 rfl
theorem flash_twins(M:Mem)(hw:M.WF)(g1 g2:Geo)(x:AV)(fs:List Flt)(hx:FltsAt M x fs)(hfl:fs.length≤9223372036854775807)(a:AV)(l:List TAct)(ha:TacsAt M a l)(hll:l.length≤9223372036854775807):
 CallA tb.P 8 [geoA g1,geoA g2,x,a] M fun y _=>y= .val (.bool true):=by
 refine F8_ok ?_
 unfold F8
 refine⟨_,_,_,_,_,rfl,_,_,_,_,_,rfl,?_⟩
 refine letP_i fun M11 hM11=>?_
 refine letP_i fun M12 hM12=>?_
 have hM11:M11=M.new (.cells (geoC g1) true):=hM11
 have hM12:M12=M11.new (.cells (geoC g2) true):=hM12
 have hk11:Keep M M11 []:=by rw[hM11];exact Keep.new hw _
 have hk12':Keep M11 M12 []:=by rw[hM12];exact Keep.new hk11.wf _
 have hk12:=hk11.trans0 hk12'
 have hb1:M12.get M.next=some (.cells (geoC g1) true):=hk12'.get hk11.wf (by rw[hM11];exact get_new _ _) (by simp)
 have hb2:M12.get M11.next=some (.cells (geoC g2) true):=by rw[hM12];exact get_new _ _
 have hx12:=hx.keep0 hw hk12
 have ha12:=ha.keep0 hw hk12
 clear hM11 hM12
 refine letP_i fun K35 hK35=>?_
 have aw:∀ N:Mem,N.WF→K35 true N:=fun N hN=>by
  rw[hK35]
  dsimp only
  simp only[condB_true]
  refine (l_awake N hN).mono ?_
  rintro y N rfl
  simp only[zB_bool]
 refine bindO_i (eLen_some (ha12.len (M':=M12))) ?_
 simp only[zI_int]
 refine condB_i (fun _=>aw M12 hk12.wf) fun hl40=>?_
 have hl40:l.length≤40:=by
  have:=of_decide_eq_false hl40
  omega
 obtain⟨_,_,_,_,_,l5⟩:=geo_ld hb1
 refine bindO_i (eLd_some l5) ?_
 refine⟨_,_,_,_,_,rfl,?_⟩
 refine (l_may9 M12 hk12.wf g1 x fs hx12 hfl).mono ?_
 rintro _ M22 ⟨rfl,hk22⟩
 simp only[zB_bool]
 cases hfew:fewF g1 fs with
 | false=>exact aw M22 hk22.wf
 | true=>
 simp only[Bool.not_true,condB_false]
 obtain⟨_,_,_,_,_,l5⟩:=geo_ld (hk22.get hk12.wf hb2 (by simp))
 refine bindO_i (eLd_some l5) ?_
 refine⟨_,_,_,_,_,rfl,?_⟩
 refine (l_may22 M22 hk22.wf g2).mono ?_
 rintro _ M31 ⟨rfl,hk31'⟩
 have hk31:=hk22.trans0 hk31'
 simp only[zB_bool]
 cases hg2:mayG g2 with
 | false=>exact aw M31 hk31.wf
 | true=>
 rw[hK35]
 dsimp only
 simp only[Bool.not_true,condB_false]
 clear aw hK35
 clear K35
 obtain⟨hg1,hP,hle⟩:=few_of hfew
 obtain⟨hlg1,hlg1b⟩:=logG_le hg1
 have hm1:=mayG_iff.1 hg1
 have hlg1c:(g1.bl-g1.sp-3)*g1.pg≤20*8:=Int.mul_le_mul (by omega) (by omega) (by omega) (by omega)
 obtain⟨hlg2,hlg2b⟩:=logG_le hg2
 have hm2:=mayG_iff.1 hg2
 have hlg2c:(g2.bl-g2.sp-3)*g2.pg≤20*8:=Int.mul_le_mul (by omega) (by omega) (by omega) (by omega)
 have hb1:=hk31.get hk12.wf hb1 (by simp)
 have hb2:=hk31.get hk12.wf hb2 (by simp)
 have ht1:M.next<M31.next:=hk31.wf _ _ hb1
 have ht2:M11.next<M31.next:=hk31.wf _ _ hb2
 have hx31:=hx12.keep0 hk12.wf hk31
 have ha31:=ha12.keep0 hk12.wf hk31
 have hw31:=hk31.wf
 clear hk31 hk31' hk22
 obtain⟨_,_,_,_,_,l5⟩:=geo_ld hb1
 refine bindO_i (eLd_some l5) ?_
 refine⟨_,_,_,_,_,rfl,?_⟩
 refine (c_new M31 hw31 g1 x fs hx31 hfl).mono ?_
 rintro y45 M46 ⟨hk46,h46⟩
 rcases h46 with⟨hno,_⟩|⟨_,p1,fsA1,bb1,bs1,rfl,hc1,hbl1,hf1,_⟩
 ·rw[hP] at hno;cases hno
 refine (ls_mount (new_left hg1 (lost_few hle) hk46 hc1 hbl1 hf1) (by decide)).mono ?_
 rintro _ M48 ⟨A1,S1,rfl,hF1,_,_,hfs1,_⟩
 refine⟨_,_,rfl,?_⟩
 refine bindO_i (eLd_some (by
  have:=geo_ld (M:=M48) (b:=M11.next) (g:=g2) (rw':=true) (by rw[hF1.low _ ht2];exact hb2)
  exact this.2.2.2.2.2)) ?_
 refine⟨_,_,_,_,_,rfl,?_⟩
 refine (c_new M48 hF1.wf g2 _ [] (SlAt.nil) (by simp)).mono ?_
 rintro y57 M58 ⟨hk58,h58⟩
 rcases h58 with⟨hno,_⟩|⟨_,p2,fsA2,bb2,bs2,rfl,hc2,hbl2,hf2,hfa2⟩
 ·have:mayP g2 []=true:=by unfold mayP;simp[hg2]
  rw[this] at hno;cases hno
 have hall1:=hF1.lt
 have hle2:(([]:List Flt).length:Int)≤g2.sp:=by show (0:Int)≤_;omega
 refine (ls_mountT (new_left hg2 (lost_few hle2) hk58 hc2 hbl2 hf2) (by decide) (T:=A1.all) fun c hc=>⟨by have:=hall1 c hc;have:=hk58.nxt;omega,fun hm=>by have:=hall1 c hc;have:=hfa2 c hm;omega⟩).mono ?_
 rintro _ M60 ⟨A2,S2,rfl,hext2,hF2,_,_,hfs2,hk60,hal2⟩
 refine⟨_,_,rfl,?_⟩
 have hfoot:∀ c∈foot p2 (newChip g2 fsA2 [] bb2 bs2),M48.next≤c∧c<M58.next:=fun c hc=>⟨hf2 c hc,hc2.lt hk58.wf c hc⟩
 have hF1a:=hF1.aside hk58 (T:=foot p2 (newChip g2 fsA2 [] bb2 bs2)) hfoot
 have hT2:∀ c∈A2.all.filter (fun c=>decide (M58.next≤c)),M58.next≤c∧c<M60.next:=fun c hc=>by
  rw[List.mem_filter] at hc
  exact⟨of_decide_eq_true hc.2,hF2.lt c hc.1⟩
 have hF1b:=hF1a.aside2 hk60 (fun c hc=>⟨List.mem_append.2 (.inl hc),fun hm=>by have:=hall1 c hm;have:=(hfoot c hc).1;omega,by have:=(hfoot c hc).1;have:=hF1.nx;omega⟩) (T:=A2.all.filter (fun c=>decide (M58.next≤c))) hT2
 have hx21:∀ c∈A2.all,c∈A2.all.filter (fun c=>decide (M58.next≤c))++(foot p2 (newChip g2 fsA2 [] bb2 bs2)++A1.ext):=fun c hc=>by
  rcases hal2 c hc with h|h
  ·exact List.mem_append.2 (.inr (List.mem_append.2 (.inl h)))
  ·exact List.mem_append.2 (.inl (List.mem_filter.2 ⟨hc,decide_eq_true h⟩))
 have hdis:∀ c∈A1.all,c∉A2.all:=fun c hc hm=>by
  have:=hall1 c hc
  rcases hal2 c hm with h|h
  ·have:=(hfoot c h).1;omega
  ·have:=hk58.nxt;omega
 have hf1':A1.f=({ A1 with ext:=A2.all.filter (fun c=>decide (M58.next≤c))++(foot p2 (newChip g2 fsA2 [] bb2 bs2)++A1.ext) }:Adr).f:=rfl
 have hW:TW M31 g1 g2 (min (logG g1) (logG g2)) 0 160 { A1 with ext:=A2.all.filter (fun c=>decide (M58.next≤c))++(foot p2 (newChip g2 fsA2 [] bb2 bs2)++A1.ext) } A2 M60 S1 S2 NoP NoP (fun _=>none) (fun _=>none):=
  ⟨hF1b.mono (by omega) (by omega),(hF2.base0 hF1.keepM).mono (by omega) (by omega),fun c hc=>by rw[hext2];exact hc,hx21,hdis,fun z _=> .inl ⟨rfl,rfl⟩⟩
 rw[hf1']
 clear hf1' hdis hx21 hF1b hT2 hF1a hfoot hk60 hal2 hext2 hF2 hall1 hF1 hfa2 hf2 hbl2 hc2 hk58 hf1 hbl1 hc1 hk46
 generalize ({ A1 with ext:=A2.all.filter (fun c=>decide (M58.next≤c))++(foot p2 (newChip g2 fsA2 [] bb2 bs2)++A1.ext) }:Adr)=C1 at hW ⊢
 have hfs1:S1.fs=fs:=hfs1
 have hfs2:S2.fs=[]:=hfs2
 refine letP_i fun K68 hK68=>?_
 refine condB_i (fun h=>absurd h (by decide)) fun _=>?_
 refine condB_i (fun h=>absurd h (by decide)) fun _=>?_
 refine bindO_i nil_eq22 ?_
 simp only[zB_bool,condB_false]
 refine bindO_i nil_eq22 ?_
 simp only[zB_bool]
 rw[hK68]
 dsimp only
 simp only[condB_false]
 clear hK68
 clear K68
 have bx2:∀ {N:Mem} {k n:Int} {S:Ps} {P:Int→Option (Option Dat)} {B:Int→Option Dat} {A:Adr} {g:Geo},LF M31 g k n A N S P B→evLoad tb 23 (.ptr M11.next 0) N=some (geoA g2)∧evLoad tb 3 (.ptr M11.next 2) N=some (i64 g2.by')∧evLoad tb 23 (.ptr M.next 0) N=some (geoA g1)∧evLoad tb 3 (.ptr M.next 2) N=some (i64 g1.by'):=fun {N k n S P B A g} h=>by
  have q2:=geo_ld (M:=N) (b:=M11.next) (g:=g2) (rw':=true) (by rw[h.low _ ht2];exact hb2)
  have q1:=geo_ld (M:=N) (b:=M.next) (g:=g1) (rw':=true) (by rw[h.low _ ht1];exact hb1)
  exact⟨q2.2.2.2.2.2,q2.2.2.1,q1.2.2.2.2.2,q1.2.2.1⟩
 refine bindO_i (eLd_some (bx2 hW.f1).2.2.1) ?_
 refine⟨_,_,_,_,_,rfl,?_⟩
 refine bindO_i (eLd_some (bx2 hW.f1).1) ?_
 refine⟨_,_,_,_,_,rfl,?_⟩
 refine (l_logical13 M60 hW.f1.wf g1 hg1).mono ?_
 rintro _ M82 ⟨rfl,hk82⟩
 have hW:=hW.keep hk82
 simp only[i64,zI_int]
 refine⟨bindO_i (eLd_some (bx2 hW.f1).1) rfl,?_⟩
 refine (l_logical13 M82 hW.f1.wf g2 hg2).mono ?_
 rintro _ M86 ⟨rfl,hk86⟩
 have hW:=hW.keep hk86
 simp only[i64,zI_int]
 have hmn:eMin tb #[3,3] 3 [.int .i64 (logG g1),.int .i64 (logG g2)] M86=some (.val (.int .i64 (min (logG g1) (logG g2))),M86):=by
  have:eMin tb #[3,3] 3 [.int .i64 (logG g1),.int .i64 (logG g2)] M86=some (.val (.int .i64 (if logG g2<logG g1 then logG g2 else logG g1)),M86):=rfl
  rw[this]
  congr 4
  split <;> omega
 refine bindO_i hmn ?_
 simp only[zI_int]
 obtain⟨L,hL⟩:∃ L:Nat,min (logG g1) (logG g2)=(L:Int):=⟨(min (logG g1) (logG g2)).toNat,by omega⟩
 rw[hL] at hW ⊢
 have hL1:(L:Int)≤logG g1:=by omega
 have hL2:(L:Int)≤logG g2:=by omega
 have hL0:0<L:=by omega
 have hn1:((g1.by'.toNat:Nat):Int)=g1.by':=by omega
 have hn2:((g2.by'.toNat:Nat):Int)=g2.by':=by omega
 refine⟨fun z q Mx=>∃ (i:Nat) (S1 S2:Ps) (P1 P2:Int→Option (Option Dat)) (B1 B2:Int→Option Dat),z=(i:Int)∧q=l.length-i∧i≤l.length∧TW M31 g1 g2 L i (160+31000*i) C1 A2 Mx S1 S2 P1 P2 B1 B2∧S1.fs=fs∧S2.fs=[],
  ⟨l.length,0,S1,S2,NoP,NoP,_,_,rfl,rfl,Nat.zero_le _,{ hW with f1:=hW.f1.mono (by omega) (by omega),f2:=hW.f2.mono (by omega) (by omega) },hfs1,hfs2⟩,?_⟩
 clear hW hfs1 hfs2 hmn
 rintro _ _ _ M94 ⟨i,S1,S2,P1,P2,B1,B2,rfl,rfl,hi,hW,hfs1,hfs2⟩
 have ha94:=ha31.keep0 hw31 hW.f1.keepM
 refine bindO_i (eLen_some (ha94.len (M':=M94))) ?_
 simp only[zI_int]
 refine condB_i (fun hlt=>?_) (fun hge=>?_)
 ·have hlt:i<l.length:=Int.ofNat_lt.1 (of_decide_eq_true hlt)
  obtain⟨b,o,h1,h2⟩:=ha94.at hlt
  refine bindO_i (eIA_some h1) ?_
  simp only[zP_ptr]
  refine bindO_i (eLd_some h2) ?_
  generalize l[i]=t
  refine⟨_,_,_,_,_,_,rfl,?_⟩
  refine letP_i fun M107 hM107=>?_
  have hM107:M107=M94.new (.cells [i64 0,i64 0,.val (.int .u8 0),i64 0,i64 0,.val (.int .u8 0)] true):=hM107
  have hk107:Keep M94 M107 []:=by rw[hM107];exact Keep.new hW.f1.wf _
  have hg107:M107.get M94.next=some (.cells [i64 0,i64 0,.val (.int .u8 0),i64 0,i64 0,.val (.int .u8 0)] true):=by rw[hM107];exact get_new _ _
  clear hM107
  refine bindO_i (eSt_some (act_st t hg107 rfl)) ?_
  have hk108:Keep M94 (M107.put M94.next (.cells (tacC t) true)) []:=keep_put_new hk107 (Nat.le_refl _) (hk107.wf _ _ hg107) _
  have hg108:(M107.put M94.next (.cells (tacC t) true)).get M94.next=some (.cells (tacC t) true):=by rw[Mem.get_put,if_pos rfl]
  generalize M107.put M94.next (.cells (tacC t) true)=M108 at hk108 hg108 ⊢
  have hq1:M94.next∉C1.all:=fun hm=>by have:=hW.f1.lt _ hm;omega
  have hq2:M94.next∉A2.all:=fun hm=>by have:=hW.f2.lt _ hm;omega
  have hW:=hW.keep hk108
  clear hk107 hg107 hk108
  generalize M94.next=q at hq1 hq2 hg108 ⊢
  have ld:∀ {N:Mem},N.get q=some (.cells (tacC t) true)→eLd tb 3 (.ptr q 0) N=some (i64 t.w,N)∧eLd tb 3 (.ptr q 1) N=some (i64 t.p,N)∧eLd tb 5 (.ptr q 2) N=some (bv8 t.v,N):=fun h=>
   ⟨eLd_some (ld_cell ty3 rfl h (o:=0) rfl),eLd_some (ld_cell ty3 rfl h (o:=1) rfl),eLd_some (ld_cell ty5 rfl h (o:=2) rfl)⟩
  refine bindO_i (ld hg108).2.1 ?_
  simp only[i64,zI_int]
  refine (l_low M108 t.p L hL0 (by omega)).mono ?_
  rintro _ M112 ⟨rfl,rfl⟩
  simp only[i64,zI_int]
  have hpl:=lowOf_lt t.p hL0
  generalize lowOf t.p L=pg at hpl ⊢
  have hz1:0≤(pg:Int)∧(pg:Int)<logG g1:=by omega
  have hz2:0≤(pg:Int)∧(pg:Int)<logG g2:=by omega
  have hzL:0≤(pg:Int)∧(pg:Int)<(L:Int):=by omega
  refine bindO_i (ld hg108).1 ?_
  simp only[i64,zI_int]
  refine letP_i fun K181 hK181=>?_
  have fin:∀ (c:Int) (N:Mem) (S1' S2':Ps) (P1' P2':Int→Option (Option Dat)) (B1' B2':Int→Option Dat),TW M31 g1 g2 L ((i:Int)+1) (160+31000*i+31000) C1 A2 N S1' S2' P1' P2' B1' B2'→S1'.fs=fs→S2'.fs=[]→K181 c c N:=by
   intro c N S1' S2' P1' P2' B1' B2' hN e1 e2
   rw[hK181]
   dsimp only
   refine letP_i fun K191 hK191=>?_
   refine condB_i (fun h=>by simp at h) fun _=>?_
   refine (ls_pages hN.f1).mono ?_
   rintro y182 M183 ⟨_,hy1,hk183,_⟩
   have hN3:=hN.keep hk183
   refine (ls_pages hN3.f2).mono ?_
   rintro y184 M185 ⟨_,hy2,hk185,_⟩
   have hN5:=hN3.keep hk185
   refine (l_sameInts M185 _ _ _ _ (hy1.keep hN3.f1.wf hk185) hy2 (by have:=pgN_len (ovl P1' B1') (logG g1).toNat;omega)).mono ?_
   rintro _ _ ⟨rfl,rfl⟩
   have ep:pgN (ovl P1' B1') (logG g1).toNat=pgN (ovl P2' B2') (logG g2).toNat:=alk_pages hN.alk (by omega) (by omega)
   simp only[zB_bool,ep,decide_true,Bool.not_true]
   rw[hK191]
   dsimp only
   simp only[condB_false]
   exact⟨l.length-(i+1),by omega,i+1,S1',S2',P1',P2',B1',B2',iInc (by omega),rfl,hlt,{ hN5 with f1:=hN5.f1.mono (by omega) (by omega),f2:=hN5.f2.mono (by omega) (by omega) },e1,e2⟩
  clear hK181
  have up:∀ {N:Mem} {P1 P2:Int→Option (Option Dat)},TW M31 g1 g2 L i (160+31000*i) C1 A2 N S1 S2 P1 P2 B1 B2→TW M31 g1 g2 L ((i:Int)+1) (160+31000*i+31000) C1 A2 N S1 S2 P1 P2 B1 B2:=fun h=>{ h with f1:=h.f1.mono (by omega) (by omega),f2:=h.f2.mono (by omega) (by omega) }
  refine condB_i (fun _=>?_) (fun _=>condB_i (fun _=>?_) (fun _=>condB_i (fun _=>?_) (fun _=>condB_i (fun _=>?_) (fun _=>?_))))
  ·
   refine bindO_i (ld hg108).2.2 ?_
   simp only[bv8,zI_int]
   refine bindO_i (eLd_some (bx2 hW.f1).2.2.2) ?_
   simp only[i64,zI_int]
   refine bindO_i (ld hg108).2.2 ?_
   simp only[bv8,zI_int]
   refine bindO_i (eLd_some (bx2 hW.f1).2.1) ?_
   simp only[i64,zI_int]
   rw[show AV.val (.int .i64 g1.by')=i64 ((g1.by'.toNat:Nat):Int) from congrArg i64 hn1.symm]
   refine (l_data M112 hW.f1.wf _ g1.by'.toNat (by omega) (by omega)).mono ?_
   rintro y124 M125 ⟨hk125,hy,_⟩
   have hg125:=hk125.get hW.f1.wf hg108 (by simp)
   have hW5:=hW.keep hk125
   refine⟨bindO_i (ld hg125).2.2 rfl,bindO_i (eLd_some (bx2 hW5.f1).2.1) rfl,?_⟩
   refine (ls_write hW5.f1 hz1 hy (by rw[datF_len];omega)).mono ?_
   rintro _ M129 ⟨rfl,hF1,hk129⟩
   simp only[i64,zI_int]
   have hg129:=hk129.get hW5.f1.wf hg125 hq1
   have hF2:=hW5.on2 hk129
   refine⟨bindO_i (ld hg129).2.2 rfl,bindO_i (eLd_some (bx2 hF1).2.1) rfl,?_⟩
   rw[show AV.val (.int .i64 g2.by')=i64 ((g2.by'.toNat:Nat):Int) from congrArg i64 hn2.symm]
   refine (l_data M129 hF1.wf _ g2.by'.toNat (by omega) (by omega)).mono ?_
   rintro y133 M134 ⟨hk134,hy2,_⟩
   refine (ls_write (hF2.keep hk134) hz2 hy2 (by rw[datF_len];omega)).mono ?_
   rintro _ M136 ⟨rfl,hF2b,hk136⟩
   simp only[i64,zI_int]
   refine fin 0 M136 _ _ _ _ _ _ (up ⟨on1 hW5 (hF1.keep hk134) hk136,hF2b,hW5.x12,hW5.x21,hW5.dis,alk_upd hW5.alk hzL (some _)⟩) hfs1 hfs2
  ·
   refine (ls_trim hW.f1 hz1).mono ?_
   rintro y1 M139 ⟨t1,t2⟩
   rcases hW.alk pg hz1.1 with⟨e1,e2⟩|⟨_,v,e1,e2⟩
   ·obtain⟨rfl,hF1,hk1⟩:=t1 e1
    simp only[i64,zI_int]
    refine (ls_trim (hW.on2 hk1) hz2).mono ?_
    rintro y2 M142 ⟨u1,u2⟩
    obtain⟨rfl,hF2,hk2⟩:=u1 e2
    simp only[i64,zI_int]
    exact fin 4 M142 _ _ _ _ _ _ (up ⟨on1 hW hF1 hk2,hF2,hW.x12,hW.x21,hW.dis,hW.alk⟩) hfs1 hfs2
   ·obtain⟨rfl,hF1,hk1⟩:=t2 (by rw[e1];simp)
    simp only[i64,zI_int]
    refine (ls_trim (hW.on2 hk1) hz2).mono ?_
    rintro y2 M142 ⟨u1,u2⟩
    obtain⟨rfl,hF2,hk2⟩:=u2 (by rw[e2];simp)
    simp only[i64,zI_int]
    exact fin 0 M142 _ _ _ _ _ _ (up ⟨on1 hW hF1 hk2,hF2,hW.x12,hW.x21,hW.dis,alk_upd hW.alk hzL none⟩) hfs1 hfs2
  ·
   refine ls_wflush hW.f1 (by rw[hfs1];exact hle) (by omega) (by omega) fun N1 S1' hF1 e1 hk1=>?_
   refine ls_wflush (hW.on2 hk1) (by rw[hfs2];exact hle2) (by omega) (by omega) fun N2 S2' hF2 e2 hk2=>?_
   exact fin 0 N2 _ _ _ _ _ _ ⟨on1 hW hF1 hk2,hF2,hW.x12,hW.x21,hW.dis,hW.alk⟩ (by rw[e1,hfs1]) (by rw[e2,hfs2])
  ·
   refine (ls_read hW.f1 hz1).mono ?_
   rintro y150 M151 ⟨_,hk151,hr1⟩
   have hW1:=hW.keep hk151
   rcases hW.alk pg hz1.1 with⟨e1,e2⟩|⟨_,v,e1,e2⟩
   ·rcases hr1 with⟨_,rfl⟩|⟨x1,d1,h1,_⟩
    rotate_left
    ·rw[e1] at h1;cases h1
    refine⟨_,_,rfl,?_⟩
    refine (ls_read hW1.f2 hz2).mono ?_
    rintro y154 M155 ⟨_,hk155,hr2⟩
    rcases hr2 with⟨_,rfl⟩|⟨x1,d1,h1,_⟩
    rotate_left
    ·rw[e2] at h1;cases h1
    refine⟨_,_,rfl,?_⟩
    refine letP_i fun K177 hK177=>?_
    refine condB_i (fun h=>absurd h (by decide)) fun _=>?_
    rw[hK177]
    dsimp only
    simp only[condB_false]
    exact fin 4 M155 _ _ _ _ _ _ (up (hW1.keep hk155)) hfs1 hfs2
   ·rcases hr1 with⟨h1,_⟩|⟨x1,d1,h1,rfl,hgr1,_⟩
    ·rw[e1] at h1;cases h1
    rw[e1] at h1
    injection h1 with h1
    subst h1
    refine⟨_,_,rfl,?_⟩
    refine (ls_read hW1.f2 hz2).mono ?_
    rintro y154 M155 ⟨_,hk155,hr2⟩
    rcases hr2 with⟨h1,_⟩|⟨x2,d2,h2,rfl,hgr2,_⟩
    ·rw[e2] at h1;cases h1
    rw[e2] at h2
    injection h2 with h2
    subst h2
    refine⟨_,_,rfl,?_⟩
    have hW2:=hW1.keep hk155
    have hB1:=hgr1.at.keep0 hW1.f1.wf hk155
    have hB2:=hgr2.at
    refine letP_i fun K177 hK177=>?_
    refine condB_i (fun _=>?_) fun h=>absurd h (by decide)
    refine condB_i (fun _=>?_) fun h=>absurd h (by decide)
    refine bindO_i (eLen_some (hB1.len (M':=M155))) ?_
    simp only[zI_int]
    refine bindO_i (eLd_some (bx2 hW2.f1).2.2.2) ?_
    simp only[i64,zI_int]
    rw[datF_len,hn1]
    refine condB_i (fun h=>by simp at h) fun _=>?_
    refine bindO_i (eLen_some (hB2.len (M':=M155))) ?_
    simp only[zI_int]
    refine bindO_i (eLd_some (bx2 hW2.f1).2.1) ?_
    simp only[i64,zI_int]
    rw[datF_len,hn2]
    refine condB_i (fun h=>by simp at h) fun _=>?_
    obtain⟨b1,o1,q1,q2⟩:=bytes_hd hB1 (by omega)
    obtain⟨b2,o2,q3,q4⟩:=bytes_hd hB2 (by omega)
    refine bindO_i q1 ?_
    simp only[zP_ptr]
    refine bindO_i q3 ?_
    simp only[zP_ptr]
    refine bindO_i q2 ?_
    simp only[bv8,zI_int]
    refine bindO_i q4 ?_
    simp only[bv8,zI_int]
    rw[hK177]
    dsimp only
    refine condB_i (fun h=>by simp at h) fun _=>?_
    exact fin 0 M155 _ _ _ _ _ _ (up hW2) hfs1 hfs2
  ·exact fin 0 M112 _ _ _ _ _ _ (up hW) hfs1 hfs2
 ·refine letP_i fun K204 hK204=>?_
  refine (ls_degraded hW.f1).mono ?_
  rintro _ _ ⟨rfl,rfl⟩
  simp only[zB_bool,Bool.not_false,condB_true]
  refine (ls_degraded hW.f2).mono ?_
  rintro _ M197 ⟨rfl,rfl⟩
  simp only[zB_bool,Bool.not_false,condB_true]
  refine (l_awake _ hW.f1.wf).mono ?_
  rintro y N rfl
  simp only[zB_bool]
  rw[hK204]
open Go.ChangeShapes Go.WideShapes Go.RowKit
theorem flt_of{r:List Value}(h:Fits [.i64,.bool,.i64] r):∃ f:Flt,ofVs r=fltC f:=by
 match r,Fits.length h with
 | [v1,v2,v3],_=>
   obtain⟨h1,h2,h3,_⟩:=h
   obtain⟨z1,rfl,_⟩:=h1
   obtain⟨b2,rfl⟩:=h2
   obtain⟨z3,rfl,_⟩:=h3
   exact⟨⟨z1,b2,z3⟩,rfl⟩
def fltK:List FK:=[.i64,.bool,.i64]
theorem rows_flts:∀ rows:List (List Value),(∀ r∈rows,Fits fltK r)→∃ xs:List Flt,xs.length=rows.length∧(rows.flatMap fun r=>ofVs r)=xs.flatMap fltC
 | [],_=>⟨[],rfl,rfl⟩
 | r::rows,h=>by
   obtain⟨xs,g1,g2⟩:=rows_flts rows fun r' hr=>h r' (List.mem_cons_of_mem _ hr)
   obtain⟨a,g4⟩:=flt_of (h r List.mem_cons_self)
   exact⟨a::xs,by rw[List.length_cons,List.length_cons,g1],by rw[List.flatMap_cons,List.flatMap_cons,g2,g4]⟩
theorem flts_arg{H:Type}{enc:TypeId×Value→H}{P:Program}{W:World}{t e:TypeId}(ht:P.underlying t=some (.slice e))(hl:leafsB P 20 e=some fltK)(hc:P.cellsOf e=fltK.length){base:Nat}{v:Value}{d:DataW H}{ps:List MemPlace}
 (hval:Value.okWide P W .any base t v) (hd:DataW.Trod enc P W 0 (fun _=>true) true t v d ps):
 ∃ (x:AV) (xs:List Flt),VR (injOf W) x v∧FltsAt (memOf W) x xs∧xs.length≤9223372036854775807:=by
 obtain⟨x,rows,h1,h2,h3,h4⟩:=structs_arg ht hl hc (Nat.zero_lt_succ _) hval hd
 obtain⟨xs,g1,g2⟩:=rows_flts rows h4
 refine⟨x,xs,h1,?_,by rw[g1];exact h3⟩
 unfold FltsAt
 rw[g1,← g2]
 exact h2
end Go.Proofs.YtlogedcoiogagaaGreat
