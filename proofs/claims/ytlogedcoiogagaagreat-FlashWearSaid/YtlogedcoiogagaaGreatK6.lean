import Derived.Test.YtlogedcoiogagaaGreatA45
import Derived.Test.YtlogedcoiogagaaGreatK1
import Derived.Test.YtlogedcoiogagaaGreatK2
import Derived.Test.YtlogedcoiogagaaGreatK3
import Derived.Test.YtlogedcoiogagaaGreatK4
import Derived.Test.YtlogedcoiogagaaGreatK5
import Derived.Test.YtlogedcoiogagaaGreatQA
set_option linter.unusedSimpArgs false
set_option linter.unusedVariables false
set_option linter.unusedSectionVars false
set_option maxRecDepth 100000
namespace Go.Proofs.YtlogedcoiogagaaGreat
open Go.AM
theorem lay_load{v:Ver}(h:okL v.d v.t.k v.t.p v.t.s v.t.e=true):state (layV v)=1∧tgOf (layV v)=v.t∧(layV v).take ((layV v).length-16)=v.d:=by
 refine⟨laid_state h,?_,?_⟩
 ·have hm:=h
  unfold okL at hm
  rw[Bool.and_eq_true] at hm
  obtain⟨f1,f2,f3,f4⟩:=tail16_fields (c:=more 0#32 (body v.d v.t.k v.t.p v.t.e v.t.e)) hm.2
  unfold tgOf layV
  rw[laid_drop]
  obtain⟨f1,f2,f3,f4⟩:=tail16_fields (c:=more 0#32 (body v.d v.t.k v.t.p v.t.s v.t.e)) hm.2
  rw[f1,f2,f3,f4]
 ·unfold layV
  rw[laid_length,Nat.add_sub_cancel,laid_eq]
  exact List.take_left' rfl
structure Mnt (M:Mem) (p:Nat) (C:Chip) (S:Ps) (A:Adr) (D:Nat) (i:Nat) (P:Mem) (C':Chip) (m:List Fnd) (sq ep:Int):Prop where
 st:Step M P p C C'
 calm:Calm C'
 bs:C'.bs=C.bs
 ops:∃ o:Nat,C'.ops=C.ops+o∧o≤i
 fl:P.get A.f=some (.cells (flC (flOf A { S with seq:=sq,ep:=ep,now:=0,deg:=false })) true)
 mf:P.get A.mf=some (.map (mK m))
 mb:P.get A.mb=some (.map [])
 mp:P.get A.mp=some (.map [])
 ms:P.get A.ms=some (.map [])
 nd:(m.map (·.1)).Nodup
 lnk:∀ q:Fnd,q∈m→∃ (b k:Nat) (v:Ver),q.1=((b:Int),(k:Int))∧b*nG S+k<i∧verAt S b k=some v∧(q.2.k=v.t.k∧q.2.p=v.t.p∧q.2.s=v.t.s∧q.2.e=v.t.e)∧BytesAt P q.2.d v.d∧q.2.d.one=true∧∀ c,inBlk q.2.d c→D≤c
 hav:∀ (b k:Nat) v,verAt S b k=some v→b*nG S+k<i→∃ q,q∈m∧q.1=((b:Int),(k:Int))
 sqb:0≤sq∧sq≤S.seq∧∀ q:Fnd,q∈m→q.2.s≤sq
 epb:0≤ep∧(ep=0∨∃ q:Fnd,q∈m∧q.2.e=ep)∧∀ q:Fnd,q∈m→q.2.e≤ep
theorem Mnt.post{M:Mem}{p:Nat}{C:Chip}{S:Ps}{A:Adr}{D i:Nat}{P N:Mem}{C':Chip}{m:List Fnd}{sq ep:Int}(h:Mnt M p C S A D i P C' m sq ep)(hk:Keep P N []):Mnt M p C S A D i N C' m sq ep:=by
 have hw:=h.st.wf
 have g:∀ {c:Nat} {r:Row},P.get c=some r→N.get c=some r:=fun hg=>hk.get hw hg (by simp)
 refine⟨h.st.post hk,h.calm,h.bs,h.ops,g h.fl,g h.mf,g h.mb,g h.mp,g h.ms,h.nd,fun q hq=>?_,h.hav,h.sqb,h.epb⟩
 obtain⟨b,k,v,e1,e2,e3,e4,e5,e6,e7⟩:=h.lnk q hq
 exact⟨b,k,v,e1,e2,e3,e4,SlAt.keep0 e5 hw hk,e6,e7⟩
theorem Mnt.skip{M:Mem}{p:Nat}{C:Chip}{S:Ps}{A:Adr}{D i:Nat}{P:Mem}{C':Chip}{m:List Fnd}{sq ep:Int}(h:Mnt M p C S A D i P C' m sq ep)(hno:∀ (b k:Nat) v,verAt S b k=some v→b*nG S+k≠i):Mnt M p C S A D (i+1) P C' m sq ep:=by
 obtain⟨o,h1,h2⟩:=h.ops
 refine⟨h.st,h.calm,h.bs,⟨o,h1,by omega⟩,h.fl,h.mf,h.mb,h.mp,h.ms,h.nd,fun q hq=>?_,fun b k v hv hlt=>h.hav b k v hv (by have:=hno b k v hv;omega),h.sqb,h.epb⟩
 obtain⟨b,k,v,e1,e2,e3⟩:=h.lnk q hq
 exact⟨b,k,v,e1,by omega,e3⟩
theorem num_inj{n a b c d:Nat}(hb:b<n)(hd:d<n)(h:a*n+b=c*n+d):a=c∧b=d:=by
 have h1:(a*n+b)/n=a:=by rw[Nat.mul_comm,Nat.mul_add_div (by omega),Nat.div_eq_of_lt hb,Nat.add_zero]
 have h2:(c*n+d)/n=c:=by rw[Nat.mul_comm,Nat.mul_add_div (by omega),Nat.div_eq_of_lt hd,Nat.add_zero]
 have:a=c:=by rw[← h1,← h2,h]
 subst this
 exact⟨rfl,by omega⟩
theorem blk_of{C:Chip}{S:Ps}(hr:CRel C S)(hi:PInv S){M:Mem}{p:Nat}(h:ChipAt M p C){b:Nat}(hb:b<nB S):∃ B X,C.bs[b]? =some B∧S.x[b]? =some X∧(∀ j v,X.v[j]? =some v→pageB B (rawN C.g) j=layV v)∧∀ j,X.v.length≤j→j<nG S→pageB B (rawN C.g) j=List.replicate (rawN C.g) 255#8:=by
 have hl:C.bs.length=nB S:=by rw[h.len,hr.g];rfl
 obtain⟨X,e1,_,_,_,e5,e6⟩:=hr.blk b _ (List.getElem?_eq_getElem (by omega:b<C.bs.length))
 exact⟨_,X,List.getElem?_eq_getElem (by omega),e1,e5,e6⟩
theorem f_mount1(M:Mem)(hw:M.WF)(p:Nat)(C:Chip)(S:Ps)(h:ChipAt M p C)(hr:CRel C S)(hi:PInv S)(ho:S.ops≤1000000000){Q:AV→Mem→Prop}
 (hQ:∀ (A:Adr) (N:Mem) (C':Chip) (m:List Fnd) (sq ep:Int) (D:Nat),A.p=p→A.ft=foot p C→A.fsA=C.fsA→A.ext=[]→M.next≤A.mf→A.mb=A.mf+1→A.mp=A.mf+2→A.ms=A.mf+3→A.f=A.mf+4→D=A.mf+5→Mnt M p C S A D (nP C.g) N C' m sq ep→
  CallA tb.P 47 [.ptr A.f 0,i64 (-1)] N fun y118 M119=>CallA tb.P 46 [y118] M119 fun y120 M121=>bindO (eLen tb false 95 y120 M121) fun y122=>zI .i64 y122.1 fun z123=>∃ J124:Int→Nat→Mem→Prop,(∃ n125:Nat,J124 (0:Int) n125 M121)∧
 ∀ (_:Nat→Option AV) (z126:Int) (n127:Nat) (M128:Mem),J124 z126 n127 M128→
 (condB (decide (z126<z123)) (bindO (eIA tb 95 y120 (.val (.int .i64 z126)) M128) fun y129=>zP y129.1 fun p130 o131=>bindO (eLd tb 99 (.ptr p130 o131) M128) fun y132=>∃ (z133:Int) (z134:Int) (z135:Int) (z136:Int) (z137:Int) (z138:Int),y132.1=
 (.agg [(.val (.int .i64 z133)),(.val (.int .i64 z134)),(.val (.int .i64 z135)),(.val (.int .i64 z136)),(.val (.int .i64 z137)),(.val (.int .i64 z138))])∧
 (letP (M128.new (.cells [(.val (.int .i64 0)),(.val (.int .i64 0)),(.val (.int .i64 0)),(.val (.int .i64 0)),(.val (.int .i64 0)),(.val (.int .i64 0))] true)) fun M139=>bindO (eSt tb 99 (.ptr M128.next 0) (.agg [(.val (.int .i64 z133)),(.val (.int .i64 z134)),(.val (.int .i64 z135)),(.val (.int .i64 z136)),(.val (.int .i64 z137)),(.val (.int .i64 z138))]) M139) fun y140=>bindO (eLd tb 80 (.ptr A.f 7) y140.2) fun y141=>bindO (eLd tb 3 (.ptr M128.next 3) y140.2) fun y142=>zI .i64 y142.1 fun z143=>bindO (eLd tb 79 (.ptr A.f 6) y140.2) fun y144=>bindO (eLd tb 85 (.ptr M128.next 0) y140.2) fun y145=>∃ (z146:Int) (z147:Int),y145.1=
 (.agg [(.val (.int .i64 z146)),(.val (.int .i64 z147))])∧
 (bindO (eLk tb 79 y144.1 (.agg [(.val (.int .i64 z146)),(.val (.int .i64 z147))]) false y140.2) fun y148=>∃ (z149:Int) (z150:Int) (z151:Int) (z152:Int) (x153:AV),y148.1=
 (.agg [(.val (.int .i64 z149)),(.val (.int .i64 z150)),(.val (.int .i64 z151)),(.val (.int .i64 z152)),x153])∧
 (bindO (eMU tb 80 y141.1 (.val (.int .i64 z143)) x153 y140.2) fun y154=>∃ k155:Nat,k155<n127∧
 (J124 (iAdd .i64 z126 1) k155 y154.2))))) (CallA tb.P 47 [(.ptr A.f 0),(.val (.int .i64 (-1)))] M128 fun y156 M157=>CallA tb.P 48 [y156] M157 fun y158 M159=>bindO (eLen tb false 95 y158 M159) fun y160=>zI .i64 y160.1 fun z161=>∃ J162:Int→Nat→Mem→Prop,(∃ n163:Nat,J162 (0:Int) n163 M159)∧
 ∀ (_:Nat→Option AV) (z164:Int) (n165:Nat) (M166:Mem),J162 z164 n165 M166→(condB (decide (z164<z161)) (letP (fun (M185:Mem)=>∃ k187:Nat,k187<n165∧
 (J162 (iAdd .i64 z164 1) k187 M185)) fun K186=>bindO (eIA tb 95 y158 (.val (.int .i64 z164)) M166) fun y167=>zP y167.1 fun p168 o169=>bindO (eLd tb 99 (.ptr p168 o169) M166) fun y170=>∃ (z171:Int) (z172:Int) (z173:Int) (z174:Int) (z175:Int) (z176:Int),y170.1=
 (.agg [(.val (.int .i64 z171)),(.val (.int .i64 z172)),(.val (.int .i64 z173)),(.val (.int .i64 z174)),(.val (.int .i64 z175)),(.val (.int .i64 z176))])∧
 (letP (M166.new (.cells [(.val (.int .i64 0)),(.val (.int .i64 0)),(.val (.int .i64 0)),(.val (.int .i64 0)),(.val (.int .i64 0)),(.val (.int .i64 0))] true)) fun M177=>bindO (eSt tb 99 (.ptr M166.next 0) (.agg [(.val (.int .i64 z171)),(.val (.int .i64 z172)),(.val (.int .i64 z173)),(.val (.int .i64 z174)),(.val (.int .i64 z175)),(.val (.int .i64 z176))]) M177) fun y178=>bindO (eLd tb 3 (.ptr M166.next 2) y178.2) fun y179=>zI .i64 y179.1 fun z180=>condB (z180 !=
 (3:Int)) (bindO (eLd tb 81 (.ptr A.f 9) y178.2) fun y181=>bindO (eLd tb 3 (.ptr M166.next 3) y178.2) fun y182=>zI .i64 y182.1 fun z183=>bindO (eMU tb 81 y181.1 (.val (.int .i64 z183)) (.val (.bool true)) y178.2) fun y184=>K186 y184.2) (K186 y178.2))) (CallA tb.P 49 [(.ptr A.f 0)] M166 fun y188 M189=>zI .i64 y188 fun z190=>Q (.tup [(.ptr A.f 0),(.val (.int .i64 0))]) M189))))):
  CallA tb.P 12 [.ptr p 0] M Q:=by
 have hmay:mayG C.g=true:=h.may
 obtain⟨hn1,hnP,_,hpg0,hpg4,hpg8,_,_⟩:=nP_bnd hmay
 have hnGg:nG S=C.g.pg.toNat:=by unfold nG;rw[← hr.g]
 have hnBg:nB S=C.g.bl.toNat:=by unfold nB;rw[← hr.g]
 refine F12_ok ?_
 unfold F12
 refine bZi nil_eq ?_
 simp only[zZb]
 refine cZi (fun h=>by simp at h) (fun _=>?_)
 refine (c_on M hw p C h).mono ?_
 rintro y M4 ⟨rfl,hM4⟩
 rw[hM4,hr.calm.off]
 simp only[zZb,Bool.not_false,Bool.not_true,cZf]
 refine (c_geo M hw p C h).mono ?_
 rintro y M7 ⟨rfl,hk7⟩
 refine⟨_,_,_,_,_,rfl,?_⟩
 have h7:=h.keep hw hk7
 refine lZi fun M13 hM13=>?_
 have e13:M13=M7.new (.map []):=hM13
 have hk13:Keep M7 M13 []:=by rw[e13];exact Keep.new hk7.wf _
 have g13:M13.get M7.next=some (.map []):=by rw[e13];exact get_new _ _
 have n13:M13.next=M7.next+1:=by rw[e13];rfl
 clear hM13 e13
 refine lZi fun M14 hM14=>?_
 have e14:M14=M13.new (.map []):=hM14
 have hk14:Keep M13 M14 []:=by rw[e14];exact Keep.new hk13.wf _
 have g14:M14.get M13.next=some (.map []):=by rw[e14];exact get_new _ _
 have n14:M14.next=M13.next+1:=by rw[e14];rfl
 clear hM14 e14
 refine lZi fun M15 hM15=>?_
 have e15:M15=M14.new (.map []):=hM15
 have hk15:Keep M14 M15 []:=by rw[e15];exact Keep.new hk14.wf _
 have g15:M15.get M14.next=some (.map []):=by rw[e15];exact get_new _ _
 have n15:M15.next=M14.next+1:=by rw[e15];rfl
 clear hM15 e15
 refine lZi fun M16 hM16=>?_
 have e16:M16=M15.new (.map []):=hM16
 have hk16:Keep M15 M16 []:=by rw[e16];exact Keep.new hk15.wf _
 have g16:M16.get M15.next=some (.map []):=by rw[e16];exact get_new _ _
 have n16:M16.next=M15.next+1:=by rw[e16];rfl
 clear hM16 e16
 have hbd:evBuild tb 83 [(0,.ptr p 0),(1,geoA C.g),(2,.map M7.next),(3,.map M13.next),(4,.map M14.next),(5,.map M15.next)]=some (.agg (flC ⟨.ptr p 0,C.g,M7.next,M13.next,M14.next,M15.next,0,0,0,false⟩)):=by
  unfold evBuild
  rw[ty83]
  rfl
 refine bZi (eBd_some hbd) ?_
 refine⟨_,_,_,_,_,_,_,_,_,_,_,_,_,_,rfl,?_⟩
 obtain⟨A,hA⟩:∃ A:Adr,A=⟨M16.next,p,M7.next,M13.next,M14.next,M15.next,foot p C,C.fsA,[]⟩:=⟨_,rfl⟩
 have hAf:M16.next=A.f:=by rw[hA]
 have hAm:M7.next=A.mf:=by rw[hA]
 have hAb:M13.next=A.mb:=by rw[hA]
 have hAp:M14.next=A.mp:=by rw[hA]
 have hAs:M15.next=A.ms:=by rw[hA]
 have hfl0:flC ⟨.ptr p 0,C.g,M7.next,M13.next,M14.next,M15.next,0,0,0,false⟩=flC (flOf A { S with seq:=0,ep:=0,now:=0,deg:=false }):=by rw[hA,hr.g];rfl
 refine lZi fun M32 hM32=>?_
 have e32:M32=M16.new (.cells (flC (flOf A { S with seq:=0,ep:=0,now:=0,deg:=false })) true):=by rw[← hfl0];exact hM32
 have hk32:Keep M16 M32 []:=by rw[e32];exact Keep.new hk16.wf _
 have g32:M32.get M16.next=some (.cells (flC (flOf A { S with seq:=0,ep:=0,now:=0,deg:=false })) true):=by rw[e32];exact get_new _ _
 have n32:M32.next=M16.next+1:=by rw[e32];rfl
 clear hM32 e32
 refine lZi fun M33 hM33=>?_
 have e33:M33=M32.new (.cells [i64 0,i64 0] true):=hM33
 have hk33:Keep M32 M33 []:=by rw[e33];exact Keep.new hk32.wf _
 have g33:M33.get M32.next=some (.cells [i64 0,i64 0] true):=by rw[e33];exact get_new _ _
 clear hM33 e33
 have hn7:M.next≤M7.next:=hk7.nxt
 have hKa:=hk7.trans0 (hk13.trans0 (hk14.trans0 (hk15.trans0 (hk16.trans0 (hk32.trans0 hk33)))))
 have m1:=(hk14.trans0 (hk15.trans0 (hk16.trans0 (hk32.trans0 hk33)))).get hk13.wf g13 (by simp)
 have m2:=(hk15.trans0 (hk16.trans0 (hk32.trans0 hk33))).get hk14.wf g14 (by simp)
 have m3:=(hk16.trans0 (hk32.trans0 hk33)).get hk15.wf g15 (by simp)
 have m4:=(hk32.trans0 hk33).get hk16.wf g16 (by simp)
 have m5:=hk33.get hk32.wf g32 (by simp)
 have hst:=place_stE (M:=M33) (b:=M32.next) 0 0 g33 rfl
 refine bZi hst ?_
 have hkp:Keep M (M33.put M32.next (.cells [i64 0,i64 0] true)) []:=kZn hKa (by omega) (hk33.wf _ _ g33) _
 have hfo:∀ c∈foot p C,c<M.next:=fun c hm=>h.lt hw c hm
 rw[hAf] at m5 n32 ⊢
 rw[hAm] at m1 hn7 n13
 rw[hAb] at m2 n14
 rw[hAp] at m3 n15
 rw[hAs] at m4 n16
 rw[hAf] at n16
 have hQ':=hQ A
 have hseq0:=hi.seq
 refine⟨fun x b n P=>∃ (C':Chip) (m:List Fnd) (sq ep:Int) (a i:Nat) (u v:Int),x= .ptr a 0∧P.get a=some (.cells [i64 u,i64 v] true)∧M32.next≤a∧i≤nP C.g∧n=nP C.g-i∧Mnt M p C S A M32.next i P C' m sq ep∧((b=true∧i<nP C.g∧u=plB C.g i∧v=plK C.g i)∨(b=false∧i=nP C.g)),?_,?_⟩
 ·have hP:∀ (c:Nat) (r:Row),c<M32.next→M33.get c=some r→(M33.put M32.next (.cells [i64 0,i64 0] true)).get c=some r:=fun c r hlt hg=>by rw[Mem.get_put,if_neg (by omega)];exact hg
  refine⟨nP C.g,C,[],0,0,M32.next,0,0,0,rfl,by rw[Mem.get_put,if_pos rfl],Nat.le_refl _,Nat.zero_le _,rfl,⟨Step.of0 hw h hkp,hr.calm,rfl,⟨0,by omega,Nat.le_refl _⟩,hP _ _ (by omega) m5,hP _ _ (by omega) m1,hP _ _ (by omega) m2,hP _ _ (by omega) m3,hP _ _ (by omega) m4,List.nodup_nil,fun q hq=>by simp at hq,fun b k v hv hlt=>by omega,⟨Int.le_refl _,hseq0.1,fun q hq=>by simp at hq⟩,⟨Int.le_refl _,.inl rfl,fun q hq=>by simp at hq⟩⟩,.inl ⟨rfl,hn1,?_,?_⟩⟩
  ·simp[plB]
  ·simp[plK]
 rintro _ x b n P ⟨C',m,sq,ep,a,i,u,v,rfl,ha,hal,hile,rfl,hm,hcase⟩
 have hg':C'.g=C.g:=hm.st.g
 refine cZi (fun hb1=>?_) (fun hb0=>?_)
 ·obtain⟨_,hi',rfl,rfl⟩:b=true∧i<nP C.g∧u=plB C.g i∧v=plK C.g i:=by
   rcases hcase with hx|⟨hx,_⟩
   ·exact hx
   ·rw[hb1] at hx;cases hx
  obtain⟨hisG,hpB,hpK,hnum⟩:=pl_is hmay hi'
  have hverAt:∀ (b k:Nat) w,verAt S b k=some w→b*nG S+k=i→b=plB C.g i∧k=plK C.g i:=fun b k w hv e=>by
   have hk:=verAt_used hv
   have hpg:=hi.pgs b
   rw[hnGg] at e hpg
   exact num_inj (by omega) hpK (by omega)
  have hnum':plB C.g i*nG S+plK C.g i=i:=by rw[hnGg];exact hnum
  refine lZi fun K96 hK96=>?_
  have next:∀ (N:Mem) (D:Chip) (m':List Fnd) (sq' ep':Int),Mnt M p C S A M32.next (i+1) N D m' sq' ep'→N.get a=some (.cells [i64 (plB C.g i:Int),i64 (plK C.g i:Int)] true)→M32.next≤N.next→K96 N:=by
   intro N D m' sq' ep' hmN ga hnn
   rw[hK96]
   obtain⟨_,_,l2⟩:=place_ld ga
   refine bZi (lZs l2) ?_
   refine⟨_,_,rfl,?_⟩
   refine lZi fun M100 h100=>?_
   have e100:M100=N.new (.cells [i64 0,i64 0] true):=h100
   have hk100:Keep N M100 []:=by rw[e100];exact Keep.new hmN.st.wf _
   have g100:M100.get N.next=some (.cells [i64 0,i64 0] true):=by rw[e100];exact get_new _ _
   clear h100 e100
   refine bZi (place_stE (plB C.g i) (plK C.g i) g100 rfl) ?_
   have hk101:Keep N (M100.put N.next (.cells [i64 (plB C.g i:Int),i64 (plK C.g i:Int)] true)) []:=kZn hk100 (Nat.le_refl _) (hk100.wf _ _ g100) _
   have g101:(M100.put N.next (.cells [i64 (plB C.g i:Int),i64 (plK C.g i:Int)] true)).get N.next=some (.cells [i64 (plB C.g i:Int),i64 (plK C.g i:Int)] true):=by rw[Mem.get_put,if_pos rfl]
   revert hk101 g101
   generalize M100.put N.next (.cells [i64 (plB C.g i:Int),i64 (plK C.g i:Int)] true)=M101
   intro hk101 g101
   have hm101:=hmN.post hk101
   have l40:eLd tb 23 (.ptr A.f 1) M101=some (geoA C.g,M101):=by
    have:=lZs (T:=tb) (ld_agg (n:=5) (o:=1) ty23 rfl rfl hm101.fl (by simp[flC]))
    rw[this,hr.g]
    rfl
   simp only
   refine bZi l40 ?_
   refine⟨_,_,_,_,_,rfl,?_⟩
   refine bZi (lZs (place_ld g101).2.2) ?_
   refine⟨_,_,rfl,?_⟩
   refine (c_next M101 hk101.wf C.g hmay i hi').mono ?_
   rintro y M112 ⟨hk112,hy⟩
   have g112:=hk112.get hk101.wf g101 (by simp)
   have hkN:=hk101.trans0 hk112
   have fin:∀ x' y':Int,Keep N (M112.put N.next (.cells [i64 x',i64 y'] true)) []:=fun x' y'=>kZn hkN (Nat.le_refl _) (hk112.wf _ _ g112) _
   rcases hy with⟨hi1,rfl⟩|⟨hi1,rfl⟩
   ·refine⟨_,_,_,rfl,?_⟩
    refine bZi (place_stE _ _ g112 rfl) ?_
    exact⟨nP C.g-(i+1),by omega,D,m',sq',ep',N.next,i+1,_,_,rfl,by rw[Mem.get_put,if_pos rfl],hnn,by omega,rfl,hmN.post (fin _ _),.inl ⟨rfl,hi1,rfl,rfl⟩⟩
   ·refine⟨_,_,_,rfl,?_⟩
    refine bZi (place_stE _ _ g112 rfl) ?_
    exact⟨nP C.g-(i+1),by omega,D,m',sq',ep',N.next,i+1,_,_,rfl,by rw[Mem.get_put,if_pos rfl],hnn,by omega,rfl,hmN.post (fin _ _),.inr ⟨rfl,hi1⟩⟩
  clear hK96
  refine bZi (place_fa a) ?_
  simp only[zZp]
  refine bZi (lZs (place_ld ha).1) ?_
  simp only[i64,zZi]
  refine (c_badOf P hm.st.wf p C' hm.st.at' _).mono ?_
  rintro y M47 ⟨rfl,hk47⟩
  simp only[zZb]
  have hltP:M32.next≤P.next:=Nat.le_of_lt (Nat.lt_of_le_of_lt hal (hm.st.wf _ _ ha))
  have hm47:=hm.post hk47
  have ha47:=hk47.get hm.st.wf ha (by simp)
  refine cZi (fun hbad=>?_) (fun _=>?_)
  ·rw[hm.st.fs,hr.fs] at hbad
   have hu0:=hi.bad (plB C.g i) hbad
   refine next M47 C' m sq ep (hm47.skip fun b k w hv e=>?_) ha47 (Nat.le_trans hltP hk47.nxt)
   obtain⟨rfl,rfl⟩:=hverAt b k w hv e
   have:=verAt_used hv
   omega
  refine bZi (lZs (place_ld ha47).2.2) ?_
  refine⟨_,_,rfl,?_⟩
  refine (c_load M47 hm47.st.wf p C' hm47.st.at' _ _).mono ?_
  rintro y M53 ⟨ux,rfl,hux,fux,s53⟩
  refine⟨_,_,_,_,_,_,rfl,?_⟩
  obtain⟨rd1,rd2,rd3⟩:=calm_rd hm.calm (i:=i) (by rw[hg'];exact hmay) (by rw[hg'];exact hi')
  rw[hg'] at rd1 rd2 rd3
  rw[pgI_same hg' hm.bs] at rd2
  rw[rd1,rd2] at hux ⊢
  obtain⟨B,X,b1,b2,b3,b4⟩:=blk_of hr hi h (b:=plB C.g i) (by omega)
  have hpgI:pgI C i=pageB B (rawN C.g) (plK C.g i):=by unfold pgI;rw[b1]
  have hft:foot p C'=foot p C:=hm.st.foot
  have s53':Step M M53 p C (rdC C' (plB C.g i) (plK C.g i)):=hm47.st.trans s53
  have hAfM:M.next≤A.mf:=hn7
  have k53:∀ (c:Nat) (r:Row),M.next≤c→M47.get c=some r→M53.get c=some r:=fun c r hc' hg=>step_get s53 hm47.st.wf hg (fun hmm=>by rw[hft] at hmm;have:=hfo c hmm;omega)
  have hrs:=rdC_same C' (plB C.g i) (plK C.g i)
  have hops:∃ o':Nat,(rdC C' (plB C.g i) (plK C.g i)).ops=C.ops+o'∧o'≤i+1:=by
   obtain⟨o,ho1,ho2⟩:=hm.ops
   have hCo:=hr.ops
   unfold rdC
   split
   ·rw[hm.calm.bg.2.1]
    refine⟨o+1,?_,by omega⟩
    show iAdd .i64 C'.ops 1=_
    rw[ib (by omega)]
    omega
   ·exact⟨o,ho1,by omega⟩
  have hm53:Mnt M p C S A M32.next i M53 C' m sq ep→True:=fun _=>trivial
  have datK:∀ q:Fnd,q∈m→∀ d,BytesAt M47 q.2.d d→(∀ c,inBlk q.2.d c→M32.next≤c)→BytesAt M53 q.2.d d:=fun q hq d hd hc=>SlAt.keep hd hm47.st.wf s53.keep fun c hcc hmm=>by
   rw[hft] at hmm
   have:=hfo c hmm
   have:=hc c hcc
   omega
  refine lZi fun M60 h60=>?_
  have e60:M60=M53.new (.cells (tgC tg0) true):=h60
  have hk60:Keep M53 M60 []:=by rw[e60];exact Keep.new s53.wf _
  have g60:M60.get M53.next=some (.cells (tgC tg0) true):=by rw[e60];exact get_new _ _
  clear h60 e60 hm53
  generalize hT:lkT 0 (pgI C i)=T at*
  refine bZi (tg_st T g60 rfl) ?_
  have hk61:Keep M53 (M60.put M53.next (.cells (tgC T) true)) []:=kZn hk60 (Nat.le_refl _) (hk60.wf _ _ g60) _
  have g61:(M60.put M53.next (.cells (tgC T) true)).get M53.next=some (.cells (tgC T) true):=by rw[Mem.get_put,if_pos rfl]
  revert hk61 g61
  generalize M60.put M53.next (.cells (tgC T) true)=M61
  intro hk61 g61
  have k61:∀ (c:Nat) (r:Row),M.next≤c→M47.get c=some r→M61.get c=some r:=fun c r hc' hg=>hk61.get s53.wf (k53 _ _ hc' hg) (by simp)
  have hMle:∀ c:Nat,A.mf≤c→M.next≤c:=fun c hc=>Nat.le_trans hn7 hc
  have hm61:Mnt M p C S A M32.next i M61 (rdC C' (plB C.g i) (plK C.g i)) m sq ep→True:=fun _=>trivial
  clear hm61
  have hst61:=s53'.post hk61
  have hbs61:(rdC C' (plB C.g i) (plK C.g i)).bs=C.bs:=hrs.2.2.trans hm.bs
  have fl61:=k61 _ _ (hMle _ (by omega)) hm47.fl
  have mf61:=k61 _ _ (hMle _ (Nat.le_refl _)) hm47.mf
  have mb61:=k61 _ _ (hMle _ (by omega)) hm47.mb
  have mp61:=k61 _ _ (hMle _ (by omega)) hm47.mp
  have ms61:=k61 _ _ (hMle _ (by omega)) hm47.ms
  have ha61:=k61 _ _ (by omega) ha47
  have hn61:M32.next≤M61.next:=Nat.le_trans hltP (Nat.le_trans hk47.nxt (Nat.le_trans s53.keep.nxt hk61.nxt))
  have lnk61:∀ q:Fnd,q∈m→∃ (b k:Nat) (v:Ver),q.1=((b:Int),(k:Int))∧b*nG S+k<i∧verAt S b k=some v∧(q.2.k=v.t.k∧q.2.p=v.t.p∧q.2.s=v.t.s∧q.2.e=v.t.e)∧BytesAt M61 q.2.d v.d∧q.2.d.one=true∧∀ c,inBlk q.2.d c→M32.next≤c:=fun q hq=>by
   obtain⟨b,k,w,e1,e2,e3,e4,e5,e6,e7⟩:=hm47.lnk q hq
   exact⟨b,k,w,e1,e2,e3,e4,SlAt.keep0 (datK q hq _ e5 e7) s53.wf hk61,e6,e7⟩
  refine lZi fun K94 hK94=>?_
  simp only
  cases hvv:X.v[plK C.g i]? with
  | some w=>
    have hver:verAt S (plB C.g i) (plK C.g i)=some w:=verAt_iff.2 ⟨X,b2,hvv⟩
    have htag:=hi.tag _ _ _ hver
    have hpage:pgI C i=layV w:=hpgI.trans (b3 _ _ hvv)
    obtain⟨l1,l2,l3⟩:=lay_load htag.1
    have hld:ldE 0 (pgI C i)=0:=by unfold ldE;rw[if_pos rfl,hpage,l1];rfl
    have hTw:T=w.t:=by rw[← hT,hpage];unfold lkT;rw[if_pos ⟨rfl,l1⟩,l2]
    have hDw:lkD 0 (pgI C i)=w.d:=by rw[hpage];unfold lkD;rw[if_pos ⟨rfl,l1⟩,l3]
    rw[hDw] at hux
    subst hTw
    rw[hld]
    simp only[beq_self_eq_true,cZt]
    have hd0:0<w.d.length:=by have:=(okL_may htag.1).1;omega
    have hux61:BytesAt M61 ux w.d:=SlAt.keep0 hux.at s53.wf hk61
    have fux':∀ c,inBlk ux c→M32.next≤c:=fun c hc=>by
     have h1:=fux c hc
     have h2:=hk47.nxt
     omega
    have hux1:ux.one=true∧∃ b' o' n' c' e',ux= .sl b' o' n' c' e':=by
     rcases hux with⟨rfl,he⟩|⟨b',he,_⟩
     ·rw[he] at hd0;simp at hd0
     ·rw[he];exact⟨rfl,_,_,_,_,_,rfl⟩
    refine bZi (lZs (lZc ty79 rfl fl61 (o:=6) (v:= .map A.mf) rfl)) ?_
    refine bZi (lZs (place_ld ha61).2.2) ⟨_,_,rfl,?_⟩
    refine bZi (lZs (tg_ld g61)) ⟨_,_,_,_,rfl,?_⟩
    have hbd2:eBd tb 94 [(0,tgA w.t),(1,ux)] M61=some (pgA ⟨w.t.k,w.t.p,w.t.s,w.t.e,ux⟩,M61):=by
     obtain⟨_,b',o',n',c',e',hsl⟩:=hux1
     refine eBd_some ?_
     unfold evBuild
     rw[ty94,hsl]
     rfl
    refine bZi hbd2 ⟨_,_,_,_,_,rfl,?_⟩
    have hno:∀ q∈m,q.1≠((plB C.g i:Int),(plK C.g i:Int)):=fun q hq e=>by
     obtain⟨b',k',w',e1,e2,e3,_⟩:=lnk61 q hq
     rw[e] at e1
     injection e1 with e1 e1'
     have h1:plB C.g i=b':=by omega
     have h2:plK C.g i=k':=by omega
     rw[← h1,← h2,hnum'] at e2
     omega
    obtain⟨m',p1,p2,p3,_⟩:=putG mt_found (show M61.get A.mf=some (.map (mG plA pgA m)) from mf61) hm.nd ((plB C.g i:Int),(plK C.g i:Int)) (⟨w.t.k,w.t.p,w.t.s,w.t.e,ux⟩:Pg)
    refine bZi p1 ?_
    have hmfl:A.mf<M61.next:=hst61.wf _ _ mf61
    have kp:Keep M61 (M61.put A.mf (.map (mG plA pgA m'))) [A.mf]:=Keep.put hst61.wf hmfl _
    have hne:∀ c,c≠A.mf→∀ r,M61.get c=some r→(M61.put A.mf (.map (mG plA pgA m'))).get c=some r:=fun c hc r hg=>by rw[Mem.get_put,if_neg hc];exact hg
    have fl77:=hne _ (by omega) _ fl61
    have g77:=hne _ (fun e=>by have:=s53.keep.nxt;have:=hk47.nxt;omega) _ g61
    have mf77:(M61.put A.mf (.map (mG plA pgA m'))).get A.mf=some (.map (mK m')):=by rw[Mem.get_put,if_pos rfl];rfl
    have mb77:=hne _ (by omega) _ mb61
    have mp77:=hne _ (by omega) _ mp61
    have ms77:=hne _ (by omega) _ ms61
    have ha77:=hne _ (by omega) _ ha61
    have n77:(M61.put A.mf (.map (mG plA pgA m'))).next=M61.next:=rfl
    generalize M61.put A.mf (.map (mG plA pgA m'))=M77 at*
    have hflg:∀ (sq ep:Int) (N:Mem),N.get A.f=some (.cells (flC (flOf A { S with seq:=sq,ep:=ep,now:=0,deg:=false })) true)→eLd tb 3 (.ptr A.f 10) N=some (.val (.int .i64 sq),N)∧eLd tb 3 (.ptr A.f 11) N=some (.val (.int .i64 ep),N):=fun sq ep N hg=>⟨lZs (lZc ty3 rfl hg rfl),lZs (lZc ty3 rfl hg rfl)⟩
    refine bZi (hflg _ _ _ fl77).1 ?_
    simp only[zZi]
    refine bZi (lZs (lZc ty3 rfl g77 (o:=2) (v:=i64 w.t.s) rfl)) ?_
    simp only[i64,zZi]
    refine bZi (max_int _ _ _) ?_
    simp only[zZi]
    refine bZi (hflg _ _ _ fl77).2 ?_
    simp only[zZi]
    refine bZi (lZs (lZc ty3 rfl g77 (o:=3) (v:=i64 w.t.e) rfl)) ?_
    simp only[i64,zZi]
    refine bZi (max_int _ _ _) ?_
    simp only[zZi]
    refine bZi (sZs (st_cell ty3 rfl rfl fl77 (by simp[flC]))) ?_
    have es1:(flC (flOf A { S with seq:=sq,ep:=ep,now:=0,deg:=false })).set 10 (.val (.int .i64 (max sq w.t.s)))=flC (flOf A { S with seq:=max sq w.t.s,ep:=ep,now:=0,deg:=false }):=rfl
    rw[es1]
    have hAflt:A.f<M77.next:=kp.wf _ _ fl77
    have kf1:Keep M77 (M77.put A.f (.cells (flC (flOf A { S with seq:=max sq w.t.s,ep:=ep,now:=0,deg:=false })) true)) [A.f]:=Keep.put kp.wf hAflt _
    have fl78:(M77.put A.f (.cells (flC (flOf A { S with seq:=max sq w.t.s,ep:=ep,now:=0,deg:=false })) true)).get A.f=some (.cells (flC (flOf A { S with seq:=max sq w.t.s,ep:=ep,now:=0,deg:=false })) true):=by rw[Mem.get_put,if_pos rfl]
    have h53f:M53.next≠A.f:=fun e=>by have:=s53.keep.nxt;have:=hk47.nxt;omega
    have g78:(M77.put A.f (.cells (flC (flOf A { S with seq:=max sq w.t.s,ep:=ep,now:=0,deg:=false })) true)).get M53.next=some (.cells (tgC w.t) true):=by rw[Mem.get_put,if_neg h53f];exact g77
    have n78:(M77.put A.f (.cells (flC (flOf A { S with seq:=max sq w.t.s,ep:=ep,now:=0,deg:=false })) true)).next=M77.next:=rfl
    generalize M77.put A.f (.cells (flC (flOf A { S with seq:=max sq w.t.s,ep:=ep,now:=0,deg:=false })) true)=M78 at*
    refine⟨bZi (lZs (lZc ty3 rfl g78 (o:=3) (v:=i64 w.t.e) rfl)) rfl,?_⟩
    refine bZi (sZs (st_cell ty3 rfl rfl fl78 (by simp[flC]))) ?_
    have es2:(flC (flOf A { S with seq:=max sq w.t.s,ep:=ep,now:=0,deg:=false })).set 11 (.val (.int .i64 (max ep w.t.e)))=flC (flOf A { S with seq:=max sq w.t.s,ep:=max ep w.t.e,now:=0,deg:=false }):=rfl
    rw[es2]
    have kf2:Keep M78 (M78.put A.f (.cells (flC (flOf A { S with seq:=max sq w.t.s,ep:=max ep w.t.e,now:=0,deg:=false })) true)) [A.f]:=Keep.put kf1.wf (by omega) _
    have fl79:(M78.put A.f (.cells (flC (flOf A { S with seq:=max sq w.t.s,ep:=max ep w.t.e,now:=0,deg:=false })) true)).get A.f=some (.cells (flC (flOf A { S with seq:=max sq w.t.s,ep:=max ep w.t.e,now:=0,deg:=false })) true):=by rw[Mem.get_put,if_pos rfl]
    have n79:(M78.put A.f (.cells (flC (flOf A { S with seq:=max sq w.t.s,ep:=max ep w.t.e,now:=0,deg:=false })) true)).next=M78.next:=rfl
    generalize M78.put A.f (.cells (flC (flOf A { S with seq:=max sq w.t.s,ep:=max ep w.t.e,now:=0,deg:=false })) true)=M79 at*
    rw[hK94]
    dsimp only
    have kall:Keep M61 M79 [A.mf,A.f]:=(kp.trans kf1 (fun c hc _=>by simp at hc;simp[hc]) (fun c hc _=>by simp at hc;simp[hc])).trans kf2 (fun _ h _=>h) (fun c hc _=>by simp at hc;simp[hc])
    have oth:∀ c,c≠A.mf→c≠A.f→∀ r,M61.get c=some r→M79.get c=some r:=fun c h1 h2 r hg=>kall.get hst61.wf hg (by simp[h1,h2])
    have mf79:M79.get A.mf=some (.map (mK m')):=(kf1.trans kf2 (fun _ h _=>h) (fun _ h _=>h)).get kp.wf mf77 (by simp;omega)
    have hdat:∀ (x:AV) (d:Dat),BytesAt M61 x d→(∀ c,inBlk x c→M32.next≤c)→BytesAt M79 x d:=fun x d hx hc=>SlAt.keep hx hst61.wf kall fun c hcc hmm=>by
     have:=hc c hcc
     simp at hmm
     omega
    have st79:Step M M79 p C (rdC C' (plB C.g i) (plK C.g i)):=by
     have k1:=hst61.at'.keepS hst61.wf kall fun c hc=>by
      have hcA:A.mf≤c∧c≤A.f:=by simp at hc;omega
      refine⟨fun hmm=>?_,fun hmm=>?_⟩
      ·rw[hst61.foot] at hmm
       have:=hfo c hmm
       omega
      ·rw[hst61.fsA] at hmm
       have:=SlAt.blk_lt h.flt hw hmm
       omega
     refine⟨k1,hst61.keep.trans kall (fun _ h _=>h) (fun c hc hlt=>?_),hst61.foot,hst61.fsA,hst61.fs,hst61.g⟩
     have hcA:A.mf≤c∧c≤A.f:=by simp at hc;omega
     omega
    refine next M79 _ m' (max sq w.t.s) (max ep w.t.e) ⟨st79,rd3,hbs61,hops,fl79,mf79,oth _ (by omega) (by omega) _ mb61,oth _ (by omega) (by omega) _ mp61,oth _ (by omega) (by omega) _ ms61,p2,fun q hq=>?_,fun b k v hv hlt=>?_,?_,?_⟩ (oth _ (by omega) (by omega) _ ha61) (by omega)
    ·rcases (p3 q).1 hq with rfl|⟨hq,_⟩
     ·exact⟨plB C.g i,plK C.g i,w,rfl,by omega,hver,⟨rfl,rfl,rfl,rfl⟩,hdat _ _ hux61 fux',hux1.1,fux'⟩
     ·obtain⟨b,k,w',e1,e2,e3,e4,e5,e6,e7⟩:=lnk61 q hq
      exact⟨b,k,w',e1,by omega,e3,e4,hdat _ _ e5 e7,e6,e7⟩
    ·by_cases e:b*nG S+k=i
     ·obtain⟨rfl,rfl⟩:=hverAt b k v hv e
      exact⟨_,(p3 _).2 (.inl rfl),rfl⟩
     ·obtain⟨q,hq,e1⟩:=hm.hav b k v hv (by omega)
      exact⟨q,(p3 _).2 (.inr ⟨hq,hno q hq⟩),e1⟩
    ·obtain⟨s1,s2,s3⟩:=hm.sqb
     have s4:=hi.sq.le _ _ _ hver
     refine⟨by omega,by omega,fun q hq=>?_⟩
     rcases (p3 q).1 hq with rfl|⟨hq,_⟩
     ·exact Int.le_max_right _ _
     ·exact Int.le_trans (s3 q hq) (Int.le_max_left _ _)
    ·obtain⟨s1,s2,s3⟩:=hm.epb
     refine⟨by omega,?_,fun q hq=>?_⟩
     ·by_cases e:ep≤w.t.e
      ·exact .inr ⟨_,(p3 _).2 (.inl rfl),by show w.t.e=_;omega⟩
      ·have e':max ep w.t.e=ep:=by omega
       rw[e']
       rcases s2 with s2|⟨q,hq,s2⟩
       ·exact .inl s2
       ·exact .inr ⟨q,(p3 _).2 (.inr ⟨hq,hno q hq⟩),s2⟩
     ·rcases (p3 q).1 hq with rfl|⟨hq,_⟩
      ·exact Int.le_max_right _ _
      ·exact Int.le_trans (s3 q hq) (Int.le_max_left _ _)
  | none=>
    have hlen:X.v.length≤plK C.g i:=by
     rw[List.getElem?_eq_none_iff] at hvv
     exact hvv
    have hpage:pgI C i=List.replicate (rawN C.g) 255#8:=hpgI.trans (b4 _ hlen (by omega))
    have hraw:40≤rawN C.g∧rawN C.g≤80:=by
     have:=mayG_iff.1 hmay
     unfold rawN
     omega
    have hld:ldE 0 (pgI C i)=5:=by unfold ldE;rw[if_pos rfl,hpage,state_blank hraw.1 hraw.2];rfl
    rw[hld]
    refine cZi (fun h5=>by simp at h5) (fun _=>?_)
    refine cZi (fun _=>?_) (fun h5=>by simp at h5)
    rw[hK94]
    have hm61:Mnt M p C S A M32.next i M61 (rdC C' (plB C.g i) (plK C.g i)) m sq ep→Mnt M p C S A M32.next (i+1) M61 (rdC C' (plB C.g i) (plK C.g i)) m sq ep:=fun hx=>hx.skip fun b k w' hv e=>by
     obtain⟨rfl,rfl⟩:=hverAt b k w' hv e
     obtain⟨X',x1,x2⟩:=verAt_iff.1 hv
     rw[b2] at x1
     injection x1 with x1
     subst x1
     rw[hvv] at x2;cases x2
    refine next M61 _ m sq ep ⟨hst61,rd3,hbs61,hops,fl61,mf61,mb61,mp61,ms61,hm.nd,fun q hq=>?_,fun b k v hv hlt=>?_,hm.sqb,hm.epb⟩ ha61 hn61
    ·obtain⟨b,k,w',e1,e2,e3⟩:=lnk61 q hq
     exact⟨b,k,w',e1,by omega,e3⟩
    ·refine hm.hav b k v hv ?_
     by_cases e:b*nG S+k=i
     ·obtain⟨rfl,rfl⟩:=hverAt b k v hv e
      obtain⟨X',x1,x2⟩:=verAt_iff.1 hv
      rw[b2] at x1
      injection x1 with x1
      subst x1
      rw[hvv] at x2;cases x2
     ·omega
 ·obtain⟨_,rfl⟩:b=false∧i=nP C.g:=by
   rcases hcase with⟨hx,_⟩|hx
   ·rw[hb0] at hx;cases hx
   ·exact hx
  refine hQ A P C' m sq ep M32.next (by rw[hA]) (by rw[hA]) (by rw[hA]) (by rw[hA]) hn7 (by omega) (by omega) (by omega) (by omega) (by omega) hm
set_option maxRecDepth 100000
theorem mt_stale:MT 81 3 4 i64 unA (bv false):=
 ⟨⟨_,_,_,ty81,rfl,ty3,ty4,rfl⟩,mt_page.eq,mt_page.ok,fun a=>⟨_,rfl,by simp[sameV,sameScalar]⟩⟩
theorem FR.stepX{A:Adr}{M1 M2:Mem}{S1:Ps}{C1:Chip}{m1:List Fnd}{c0:Nat}(hr1:FR A M1 S1 C1 m1)(hk1:Keep M1 M2 [c0])(h1:c0∈A.av)(h2:c0∉A.wr):FR A M2 S1 C1 m1:=by
 refine hr1.keepS hk1 fun c hc=>?_
 rw[List.mem_singleton] at hc
 subst hc
 refine⟨h2,fun hm=>hr1.fsx _ hm h1,fun q hq hm=>?_⟩
 obtain⟨_,_,_,_,_,_,_,_,e6⟩:=hr1.lnk q hq
 exact e6 _ hm h1
structure Mtd (T:List Nat) (M:Mem) (p:Nat) (C:Chip) (S:Ps) (B:Int→Option Dat) (A:Adr) (N:Mem) (S':Ps):Prop where
 ap:A.p=p
 ft:A.ft=foot p C
 fsA:A.fsA=C.fsA
 ext:A.ext=T
 new:M.next≤A.mf
 adr:A.mb=A.mf+1∧A.mp=A.mf+2∧A.ms=A.mf+3∧A.f=A.mf+4
 keep:Keep M N (foot p C)
 x:S'.x=S.x∧S'.g=S.g∧S'.fs=S.fs∧S'.now=0
 deg:S'.deg= !decide ((lostN S:Int)≤S.g.sp)
 ops:S.ops≤S'.ops∧S'.ops≤S.ops+nB S*nG S
 ep:(∀ b k v,verAt S b k=some v→v.t.e≤S'.ep)∧(S'.ep=0∨∃ b k v,verAt S b k=some v∧v.t.e=S'.ep)
 fr:∃ C m,FR A N S' C m
 pend:MpOk N A A.mp [] (fun _=>none)
 base:∃ bm,MpOk N A A.mb bm (fun n=>(B n).map some)
 stale:∃ es,N.get A.ms=some (.map es)∧((∀ b k v,verAt S b k=some v→v.t.e≤lastX S)→es=[])
theorem f_mount(M:Mem)(hw:M.WF)(p:Nat)(C:Chip)(S:Ps)(h:ChipAt M p C)(hr:CRel C S)(hi:PInv S)(ho:S.ops≤1000000000){B:Int→Option Dat}(hB:BaseOk S B)(hneg:∀ p:Int,p<0→B p=none){T:List Nat}(hT:∀ c∈T,c<M.next∧¬ inBlk C.fsA c):
 CallA tb.P 12 [.ptr p 0] M fun y N=>∃ A S',y= .tup [.ptr A.f 0,i64 0]∧Mtd T M p C S B A N S':=by
 refine f_mount1 M hw p C S h hr hi ho ?_
 intro A0 N C' m sq ep D hAp hAft hAfs hAe hnew hAb hApn hAs hAf hD hm
 obtain⟨A,rfl,hAe2⟩:∃ A:Adr,A0={ A with ext:=[] }∧A.ext=T:=⟨{ A0 with ext:=T },by cases A0;simp only at hAe;subst hAe;rfl,rfl⟩
 replace hm:Mnt M p C S A D _ N C' m sq ep:=⟨hm.st,hm.calm,hm.bs,hm.ops,hm.fl,hm.mf,hm.mb,hm.mp,hm.ms,hm.nd,hm.lnk,hm.hav,hm.sqb,hm.epb⟩
 dsimp only at hAp hAft hAfs hnew hAb hApn hAs hAf hD ⊢
 clear hAe
 have hAe:=hAe2
 have hmay:mayG C.g=true:=h.may
 have hnGg:nG S=C.g.pg.toNat:=by unfold nG;rw[← hr.g]
 have hnBg:nB S=C.g.bl.toNat:=by unfold nB;rw[← hr.g]
 have hnPe:nP C.g=nB S*nG S:=by unfold nP;rw[hnGg,hnBg]
 obtain⟨hn1,hnP,_,hpg0,hpg4,hpg8,_,_⟩:=nP_bnd hmay
 have hfo:∀ c∈foot p C,c<M.next:=fun c hmm=>h.lt hw c hmm
 obtain⟨o,ho1,ho2⟩:=hm.ops
 have hseq0:=hi.seq
 have hbk:∀ b k v,verAt S b k=some v→b<nB S∧k<nG S∧b*nG S+k<nP C.g:=fun b k v hv=>by
  have hu:=verAt_used hv
  have hpg:=hi.pgs b
  obtain⟨X,x1,_⟩:=verAt_iff.1 hv
  have hbl:=(List.getElem?_eq_some_iff.1 x1).1
  rw[hi.len] at hbl
  refine⟨hbl,by omega,?_⟩
  rw[hnPe]
  have:(b+1)*nG S≤nB S*nG S:=Nat.mul_le_mul_right _ hbl
  rw[Nat.add_mul,Nat.one_mul] at this
  omega
 have hfnd:∀ b k v,verAt S b k=some v→∃ q,q∈m∧q.1=((b:Int),(k:Int))∧q.2.s=v.t.s∧q.2.e=v.t.e:=fun b k v hv=>by
  obtain⟨q,hq,e⟩:=hm.hav b k v hv (hbk b k v hv).2.2
  obtain⟨b',k',w,e1,_,e3,e4,_⟩:=hm.lnk q hq
  rw[e] at e1
  injection e1 with e1 e1'
  have h1:b=b':=by omega
  have h2:k=k':=by omega
  subst h1 h2
  rw[hv] at e3
  injection e3 with e3
  subst e3
  exact⟨q,hq,e,e4.2.2.1,e4.2.2.2⟩
 obtain⟨S1,hS1⟩:∃ S1:Ps,S1={ S with seq:=sq,ep:=ep,now:=0,deg:=false,ops:=C'.ops }:=⟨_,rfl⟩
 have hCo:C.ops=S.ops:=hr.ops
 have hi1:PInv S1:=by
  subst hS1
  refine⟨hi.may,hi.len,hi.pgs,⟨fun b k v hv=>?_,hi.sq.one⟩,fun b k v hv=>?_,hi.bad,⟨hm.sqb.1,?_⟩,fun b X hX=>?_⟩
  ·obtain⟨q,hq,_,e1,_⟩:=hfnd b k v hv
   show v.t.s≤sq
   rw[← e1];exact hm.sqb.2.2 q hq
  ·obtain⟨q,hq,_,_,e1⟩:=hfnd b k v hv
   obtain⟨a1,a2,a3,a4,a5⟩:=hi.tag b k v hv
   refine⟨a1,a2,a3,a4,?_⟩
   show v.t.e≤ep
   rw[← e1];exact hm.epb.2.2 q hq
  ·show sq≤C'.ops
   have:=hm.sqb.2.1
   omega
  ·obtain⟨a1,a2,a3,a4⟩:=hi.cnt b X hX
   show 0≤X.w∧X.w≤C'.ops∧0≤X.n∧X.n≤C'.ops
   omega
 have hrawe:rawN C'.g=rawN C.g:=by rw[hm.st.g]
 have hrel1:CRel C' S1:=by
  subst hS1
  refine⟨hm.st.g.trans hr.g,hm.st.fs.trans hr.fs,hm.calm,rfl,fun b B' hB'=>?_⟩
  rw[hm.bs] at hB'
  obtain⟨X,x1,x2,x3,x4,x5,x6⟩:=hr.blk b B' hB'
  exact⟨X,x1,x2,x3,x4,by rw[hrawe];exact x5,fun j h1 h2=>by rw[hrawe];exact x6 j h1 h2⟩
 have hall:∀ c,c∈A.av→c<M.next∨(A.mf≤c∧c<D):=fun c hc=>by
  simp only[Adr.av,Adr.all,hAe,List.mem_append,List.mem_cons] at hc
  rcases hc with (rfl|rfl|rfl|rfl|rfl|hc)|hc
  rotate_right
  ·exact .inl (hT c hc).1
  ·right;omega
  ·right;omega
  ·right;omega
  ·right;omega
  ·right;omega
  ·left;rw[hAft] at hc;exact hfo c hc
 have hdis:A.all.Nodup:=by
  unfold Adr.all
  have hft:∀ c,A.mf≤c→c∉A.ft:=fun c hc hmm=>by rw[hAft] at hmm;have:=hfo c hmm;omega
  simp only[List.nodup_cons,List.mem_cons,not_or]
  refine⟨⟨by omega,by omega,by omega,by omega,hft _ (by omega)⟩,⟨by omega,by omega,by omega,hft _ (by omega)⟩,⟨by omega,by omega,hft _ (by omega)⟩,⟨by omega,hft _ (by omega)⟩,hft _ (by omega),by rw[hAft];exact h.nd⟩
 have hR:FR A N S1 C' m:=by
  refine⟨hm.st.wf,hi1,by rw[hS1];exact hm.fl,by rw[hAp];exact hm.st.at',by rw[hAp,hAft];exact hm.st.foot,by rw[hAfs];exact hm.st.fsA,hrel1,hm.mf,hm.nd,fun q hq=>?_,fun b k v hv=>?_,hdis,fun c hc hmm=>?_⟩
  ·obtain⟨b,k,v,e1,_,e3,e4,e5,e6,e7⟩:=hm.lnk q hq
   refine⟨b,k,v,e1,by rw[hS1];exact e3,e4,e5,e6,fun c hc hmm=>?_⟩
   have:=e7 c hc
   rcases hall c hmm with h1|h1
   ·omega
   ·omega
  ·rw[hS1] at hv
   obtain⟨q,hq,e,_⟩:=hfnd b k v hv
   exact⟨q,hq,e⟩
  ·rw[hAfs] at hc
   have hlt:=SlAt.blk_lt h.flt hw hc
   simp only[Adr.av,Adr.all,hAe,List.mem_append,List.mem_cons] at hmm
   rcases hmm with (rfl|rfl|rfl|rfl|rfl|hmm)|hmm
   rotate_right
   ·exact (hT c hmm).2 hc
   ·omega
   ·omega
   ·omega
   ·omega
   ·omega
   ·rw[hAft] at hmm;exact h.fsx c hc hmm
 have hB1:BaseOk S1 B:=by rw[hS1];exact hB.now 0
 obtain⟨⟨w1,w2,w3⟩,w4,w5,w6⟩:=Adr.maps hdis
 have hT1:∀ c∈[A.mb],c∈A.av:=fun c hc=>by rw[List.mem_singleton] at hc;rw[hc];exact av_mp.2.1
 have hT3:∀ c∈[A.ms],c∈A.av:=fun c hc=>by rw[List.mem_singleton] at hc;rw[hc];exact av_mp.2.2
 have hNn:D≤N.next:=by have:=hm.st.wf _ _ hm.fl;omega
 refine (j_list hR (-1)).mono ?_
 rintro y M119 ⟨l,hl,hy,hk119,fy⟩
 have hmem:=hR.mem_fds hl
 have hlen:l.length≤160:=by
  have:=hl.length_eq
  rw[List.length_map] at this
  have:=List.length_filter_le (fun q:Fnd=>q.1.1 != -1) m
  have:=hR.few
  omega
 have hR119:=hR.post hk119
 have hnwl:(nwF l).length≤1000:=by
  have hok:=nwF_ok l
  have h1:((nwF l).map (·.1)).length≤(l.map fun f=>f.t.p).length:=nodup_le hok.nd fun c hc=>by
   obtain⟨q,hq,rfl⟩:=List.mem_map.1 hc
   obtain⟨s1,_,s3,_⟩:=hok.snd q hq
   exact List.mem_map.2 ⟨q.2,s1,s3⟩
  rw[List.length_map,List.length_map] at h1
  omega
 have hrng:∀ f∈l,inI64 f.t.p:=fun f hf=>by
  obtain⟨b,k,v,hv,rfl⟩:=Go.Proofs.YtlogedcoiogagaaGreat.mem_fds.1 ((hmem f).1 hf)
  have:=okL_may (hi1.tag b k v hv).1
  unfold inI64
  simp only
  omega
 refine (r_all M119 hk119.wf y l hy.at (by omega) hrng hnwl).mono ?_
 rintro y2 M121 ⟨ps,hps,_,hy2,hk121,fy2⟩
 have hR121:=hR119.post hk121
 have hk121':=hk119.trans0 hk121
 have hfm:=fun f=>all_mem hi1 hmem hps f
 have hl'len:((ps.map (ofF (nwF l))).filter fun f=>decide (f.t.k=1)).length≤1000000:=by
  refine Nat.le_trans (List.length_filter_le _ _) ?_
  have:=hps.length_eq
  rw[List.length_map] at this
  rw[List.length_map,this]
  omega
 generalize ((ps.map (ofF (nwF l))).filter fun f=>decide (f.t.k=1))=l' at hy2 hfm hl'len
 refine bZi (lZl hy2.at.len) ?_
 simp only[zZi]
 have hmb121:M121.get A.mb=some (.map []):=hk121'.get hm.st.wf hm.mb (by simp)
 have hmp121:M121.get A.mp=some (.map []):=hk121'.get hm.st.wf hm.mp (by simp)
 have hms121:M121.get A.ms=some (.map []):=hk121'.get hm.st.wf hm.ms (by simp)
 have hN121:N.next≤M121.next:=hk121'.nxt
 obtain⟨Bj,hBj⟩:∃ Bj:Nat→Int→Option (Option Dat),∀ j p,Bj j p=if ((l'.take j).any fun f=>f.t.p==p)=true then (B p).map some else none:=⟨_,fun _ _=>rfl⟩
 have hy2b:∀ c,inBlk y2 c→c∉[A.mb]:=fun c hc hmm=>by
  rw[List.mem_singleton] at hmm
  have:=fy2 c hc
  have:=hk119.nxt
  omega
 refine⟨fun z n Q=>∃ (j:Nat) (bm:List (Int×AV)),z=j∧n=l'.length-j∧j≤l'.length∧Keep M121 Q [A.mb]∧MpOk Q A A.mb bm (Bj j),
  ⟨_,0,[],rfl,rfl,Nat.zero_le _,Keep.refl hR121.wf,⟨hmb121,List.nodup_nil,fun q hq=>by simp at hq,fun n x hx=>by rw[hBj] at hx;simp at hx⟩⟩,?_⟩
 rintro _ z n Q ⟨j,bm,rfl,rfl,hj,hkQ,hbQ⟩
 have hRQ:=hR121.stepX hkQ av_mp.2.1 w1
 have hyQ:FdsAt Q y2 l':=SlAt.keep hy2.at hR121.wf hkQ hy2b
 refine cZi (fun hlt=>?_) (fun hge=>?_)
 ·have hlt:j<l'.length:=Int.ofNat_lt.1 (of_decide_eq_true hlt)
  obtain⟨b1,o1,a1,a2,_⟩:=hyQ.all hlt
  obtain⟨b,k,v,hx,hbest,hk1⟩:=(hfm l'[j]).1 (List.getElem_mem hlt)
  refine bZi (a1 Q) ?_
  rw[zZp]
  refine bZi a2 ⟨_,_,_,_,_,_,rfl,?_⟩
  refine lZi fun M139 hM139=>?_
  have e139:M139=Q.new (.cells [i64 0,i64 0,i64 0,i64 0,i64 0,i64 0] true):=hM139
  have k139:Keep Q M139 []:=by rw[e139];exact Keep.new hRQ.wf _
  have g139:M139.get Q.next=some (.cells [i64 0,i64 0,i64 0,i64 0,i64 0,i64 0] true):=by rw[e139];exact get_new _ _
  have n139:M139.next=Q.next+1:=by rw[e139];rfl
  clear hM139 e139
  refine bZi (fd_stE l'[j] g139 rfl) ?_
  have k140:Keep Q (M139.put Q.next (.cells (fdC l'[j]) true)) []:=kZn k139 (Nat.le_refl _) (by omega) _
  have g140:(M139.put Q.next (.cells (fdC l'[j]) true)).get Q.next=some (.cells (fdC l'[j]) true):=by rw[Mem.get_put,if_pos rfl]
  revert k140 g140
  generalize M139.put Q.next (.cells (fdC l'[j]) true)=M140
  intro k140 g140
  have hR140:=hRQ.post k140
  have hb140:=hbQ.keep hRQ.wf k140 (by simp) (by simp)
  refine bZi (lZs (lZc ty80' rfl hR140.fl (o:=7) (v:= .map A.mb) rfl)) ?_
  refine bZi (lZs (lZc ty3 rfl g140 (o:=3) (v:=i64 l'[j].t.p) rfl)) ?_
  simp only[i64,zZi]
  refine bZi (lZs (lZc ty79 rfl hR140.fl (o:=6) (v:= .map A.mf) rfl)) ?_
  have lpl:eLd tb 85 (.ptr Q.next 0) M140=some (placeA l'[j].b l'[j].k,M140):=lZs (ld_agg (n:=2) ty85 rfl rfl g140 (by simp[fdC]))
  refine bZi lpl ⟨_,_,rfl,?_⟩
  obtain⟨xd,x1,x2,x3,x4⟩:=hR140.ver hbest.1
  have hbk':l'[j].b=(b:Int)∧l'[j].k=(k:Int)∧l'[j].t=v.t:=by rw[hx];exact⟨rfl,rfl,rfl⟩
  obtain⟨q1,q2,q3⟩:=hbk'
  rw[q1,q2,q3]
  have hlk:eLk tb 79 (.map A.mf) (placeA (b:Int) (k:Int)) false M140=some (pgA ⟨v.t.k,v.t.p,v.t.s,v.t.e,xd⟩,M140):=lookG_yes mt_found (show M140.get A.mf=some (.map (mG plA pgA m)) from hR140.mf) hR140.nd x1 false
  refine bZi hlk ⟨_,_,_,_,_,rfl,?_⟩
  have htag:=hi1.tag _ _ _ hbest.1
  have hd0:24≤v.d.length:=(okL_may htag.1).1.1
  have hsl:∃ b o n c e,xd= .sl b o n c e:=by
   rcases x2.2 with⟨_,h0⟩|⟨b',o',c',e',h0,_⟩
   ·omega
   ·exact⟨_,_,_,_,_,h0⟩
  obtain⟨pm',p1,p2,_⟩:=hb140.put hR140.wf av_mp.2.1 v.t.p xd (some v.d) (.inr ⟨v.d,rfl,x2,hsl,x4⟩)
  refine bZi p1 ?_
  have kp:Keep M140 (M140.put A.mb (.map (mG i64 (fun x:AV=>x) pm'))) [A.mb]:=Keep.put hR140.wf (hR140.wf _ _ hb140.get) _
  refine⟨_,by omega,j+1,pm',iInc (by omega),rfl,by omega,(hkQ.trans k140 (fun _ h _=>h) (by simp)).trans kp (fun _ h _=>h) (fun _ h _=>h),?_⟩
  have hp0:=(okL_may htag.1).2.2.2.1
  have hBp:B v.t.p=some v.d:=(hB1 v.t.p hp0 v.d).2 ⟨v.t.e,b,k,v,hbest,hk1,rfl,rfl,rfl⟩
  have hfun:Bj (j+1)=updN (Bj j) v.t.p (some v.d):=by
   funext p'
   unfold updN
   rw[hBj,hBj,List.take_add_one,List.getElem?_eq_getElem hlt,List.any_append]
   simp only[Option.toList_some,List.any_cons,List.any_nil,Bool.or_false,q3]
   by_cases e:p'=v.t.p
   ·rw[if_pos e,e]
    simp[hBp]
   ·rw[if_neg e]
    have:(v.t.p==p')=false:=by
     cases h:v.t.p==p' with
     | false=>rfl
     | true=>rw[beq_iff_eq] at h;exact absurd h.symm e
    rw[this,Bool.or_false]
  rw[hfun]
  exact p2
 ·
  have hge:¬ (j:Int)<l'.length:=of_decide_eq_false hge
  have:j=l'.length:=by omega
  subst this
  have hfun:Bj l'.length=fun n=>(B n).map some:=by
   funext p'
   rw[hBj,List.take_length]
   split
   ·rfl
   ·rename_i hno
    cases hBp:B p' with
    | none=>rfl
    | some d=>
      exfalso
      have hp0:0≤p':=by
       by_cases h0:0≤p'
       ·exact h0
       ·rw[hneg p' (by omega)] at hBp;cases hBp
      obtain⟨e,b,k,v,hbest,hk1,hpp,_,_⟩:=(hB1 p' hp0 d).1 hBp
      have hf:=(hfm ⟨b,k,v.t⟩).2 ⟨b,k,v,rfl,by rw[hpp];exact hbest,hk1⟩
      apply hno
      rw[List.any_eq_true]
      exact⟨_,hf,by simp[hpp]⟩
  rw[hfun] at hbQ
  have hmpQ:Q.get A.mp=some (.map []):=hkQ.get hR121.wf hmp121 (by simp;exact fun e=>w4 e.symm)
  have hmsQ:Q.get A.ms=some (.map []):=hkQ.get hR121.wf hms121 (by simp;exact fun e=>w5 e.symm)
  have hKQ:Keep M Q (foot p C):=by
   have k0:Keep M M121 (foot p C):=hm.st.keep.trans hk121' (fun _ h _=>h) (by simp)
   exact k0.trans hkQ (fun _ h _=>h) (fun c hc hlt=>by rw[List.mem_singleton] at hc;omega)
  refine (j_list hRQ (-1)).mono ?_
  rintro y3 M157 ⟨l2,hl2,hy3,hk157,fy3⟩
  have hmem2:=hRQ.mem_fds hl2
  have hlen2:l2.length≤160:=by
   have:=hl2.length_eq
   rw[List.length_map] at this
   have:=List.length_filter_le (fun q:Fnd=>q.1.1 != -1) m
   have:=hR.few
   omega
  refine (r_stale M157 hk157.wf y3 l2 hy3.at (by omega)).mono ?_
  rintro y4 M159 ⟨hy4,hk159,fy4⟩
  have hlast2:lastF l2=lastX S1:=lastF_mem hmem2
  have hlX:lastX S1=lastX S:=by rw[hS1];rfl
  have hstl:∀ f∈(l2.filter fun f=>decide (f.t.e>lastF l2)),f.t.e>lastX S:=fun f hf=>by
   rw[List.mem_filter,decide_eq_true_eq,hlast2,hlX] at hf
   exact hf.2
  have hstm:∀ f∈(l2.filter fun f=>decide (f.t.e>lastF l2)),∃ b k v,verAt S b k=some v∧f.t=v.t:=fun f hf=>by
   rw[List.mem_filter] at hf
   obtain⟨b,k,v,hv,e⟩:=Go.Proofs.YtlogedcoiogagaaGreat.mem_fds.1 ((hmem2 f).1 hf.1)
   rw[hS1] at hv
   exact⟨b,k,v,hv,by rw[e]⟩
  have hstlen:(l2.filter fun f=>decide (f.t.e>lastF l2)).length≤160:=Nat.le_trans (List.length_filter_le _ _) hlen2
  generalize (l2.filter fun f=>decide (f.t.e>lastF l2))=l4 at*
  have hk159':=hk157.trans0 hk159
  have hR159:=hRQ.post hk159'
  have hb159:=hbQ.keep hRQ.wf hk159' (by simp) (by simp)
  have hmp159:=hk159'.get hRQ.wf hmpQ (by simp)
  have hms159:=hk159'.get hRQ.wf hmsQ (by simp)
  have hQn:M121.next≤Q.next:=hkQ.nxt
  have h157n:Q.next≤M157.next:=hk157.nxt
  refine bZi (lZl hy4.at.len) ?_
  simp only[zZi]
  refine⟨fun z n Q2=>∃ (j:Nat) (es:List (Int×Unit)),z=j∧n=l4.length-j∧j≤l4.length∧Keep M159 Q2 [A.ms]∧Q2.get A.ms=some (.map (mG i64 unA es))∧(es.map (·.1)).Nodup∧(l4=[]→es=[]),
   ⟨_,0,[],rfl,rfl,Nat.zero_le _,Keep.refl hR159.wf,hms159,List.nodup_nil,fun _=>rfl⟩,?_⟩
  rintro _ z n Q2 ⟨j,es,rfl,rfl,hj,hkQ2,hgQ2,hndQ2,hesQ2⟩
  have hRQ2:=hR159.stepX hkQ2 av_mp.2.2 w3
  have hyQ2:FdsAt Q2 y4 l4:=SlAt.keep hy4.at hR159.wf hkQ2 fun c hc hmm=>by
   rw[List.mem_singleton] at hmm
   have:=fy4 c hc
   omega
  refine cZi (fun hlt=>?_) (fun hge=>?_)
  ·have hlt:j<l4.length:=Int.ofNat_lt.1 (of_decide_eq_true hlt)
   refine lZi fun K186 hK186=>?_
   have key:∀ (N3:Mem) (es':List (Int×Unit)),Keep Q2 N3 [A.ms]→N3.get A.ms=some (.map (mG i64 unA es'))→(es'.map (·.1)).Nodup→K186 N3:=by
    intro N3 es' a1 a2 a3
    rw[hK186]
    exact⟨_,by omega,j+1,es',iInc (by omega),rfl,by omega,hkQ2.trans a1 (fun _ h _=>h) (fun _ h _=>h),a2,a3,fun e=>by rw[e] at hlt;simp at hlt⟩
   clear hK186
   obtain⟨b1,o1,a1,a2,_⟩:=hyQ2.all hlt
   refine bZi (a1 Q2) ?_
   rw[zZp]
   refine bZi a2 ⟨_,_,_,_,_,_,rfl,?_⟩
   refine lZi fun M177 hM177=>?_
   have e177:M177=Q2.new (.cells [i64 0,i64 0,i64 0,i64 0,i64 0,i64 0] true):=hM177
   have k177:Keep Q2 M177 []:=by rw[e177];exact Keep.new hRQ2.wf _
   have g177:M177.get Q2.next=some (.cells [i64 0,i64 0,i64 0,i64 0,i64 0,i64 0] true):=by rw[e177];exact get_new _ _
   have n177:M177.next=Q2.next+1:=by rw[e177];rfl
   clear hM177 e177
   refine bZi (fd_stE l4[j] g177 rfl) ?_
   have k178:Keep Q2 (M177.put Q2.next (.cells (fdC l4[j]) true)) []:=kZn k177 (Nat.le_refl _) (by omega) _
   have g178:(M177.put Q2.next (.cells (fdC l4[j]) true)).get Q2.next=some (.cells (fdC l4[j]) true):=by rw[Mem.get_put,if_pos rfl]
   revert k178 g178
   generalize M177.put Q2.next (.cells (fdC l4[j]) true)=M178
   intro k178 g178
   have hR178:=hRQ2.post k178
   have hg178:=k178.get hRQ2.wf hgQ2 (by simp)
   refine bZi (lZs (lZc ty3 rfl g178 (o:=2) (v:=i64 l4[j].t.k) rfl)) ?_
   simp only[i64,zZi]
   refine cZi (fun _=>?_) (fun _=>key M178 es (k178.mono (by simp)) hg178 hndQ2)
   refine bZi (lZs (lZc ty81 rfl hR178.fl (o:=9) (v:= .map A.ms) rfl)) ?_
   refine bZi (lZs (lZc ty3 rfl g178 (o:=3) (v:=i64 l4[j].t.p) rfl)) ?_
   simp only[i64,zZi]
   obtain⟨es',p1,p2,_,_⟩:=putG mt_stale hg178 hndQ2 l4[j].t.p ()
   refine bZi p1 ?_
   exact key _ es' (k178.trans (Keep.put k178.wf (k178.wf _ _ hg178) _) (by simp) (fun _ h _=>h)) (by rw[Mem.get_put,if_pos rfl]) p2
  ·refine (j_worn hRQ2).mono ?_
   rintro y5 M189 ⟨rfl,hR189,hk189⟩
   simp only[i64,zZi]
   have hkA:∀ c∈[A.f],c∈A.av:=fun c hc=>by rw[List.mem_singleton] at hc;rw[hc];simp[Adr.av,Adr.all]
   have hbQ2:=hb159.keep hR159.wf hkQ2 (by simp[w5]) hT3
   have hfw:A.f∈A.wr:=by simp[Adr.wr]
   have hbf:=hbQ2.keep hRQ2.wf hk189 (by simp;exact fun e=>w1 (by rw[e];exact hfw)) hkA
   have hmpQ2:=hkQ2.get hR159.wf hmp159 (by simp[w6])
   have hmpf:=hk189.get hRQ2.wf hmpQ2 (by simp;exact fun e=>w2 (by rw[e];exact hfw))
   have hmsf:=hk189.get hRQ2.wf hgQ2 (by simp;exact fun e=>w3 (by rw[e];exact hfw))
   have hS1x:S1.x=S.x∧S1.g=S.g∧S1.fs=S.fs∧S1.now=0∧S1.ep=ep∧S1.ops=C'.ops:=by rw[hS1];exact⟨rfl,rfl,rfl,rfl,rfl,rfl⟩
   have hlost1:lostN S1=lostN S:=by rw[hS1];rfl
   have hwx:(wornX S1).1.x=S1.x∧(wornX S1).1.g=S1.g∧(wornX S1).1.fs=S1.fs∧(wornX S1).1.now=S1.now∧(wornX S1).1.ep=S1.ep∧(wornX S1).1.ops=S1.ops∧(wornX S1).1.deg= !decide ((lostN S1:Int)≤S1.g.sp):=by
    unfold wornX
    split
    ·rename_i hh
     refine⟨rfl,rfl,rfl,rfl,rfl,rfl,?_⟩
     rw[decide_eq_true hh,hS1];rfl
    ·rename_i hh
     refine⟨rfl,rfl,rfl,rfl,rfl,rfl,?_⟩
     rw[decide_eq_false hh];rfl
   obtain⟨x1,x2,x3,x4,x5,x6,x7⟩:=hwx
   refine⟨A,(wornX S1).1,by first|trivial|rfl,hAp,hAft,hAfs,hAe,hnew,⟨hAb,hApn,hAs,hAf⟩,?_,⟨x1.trans hS1x.1,x2.trans hS1x.2.1,x3.trans hS1x.2.2.1,x4.trans hS1x.2.2.2.1⟩,?_,?_,⟨fun b k v hv=>?_,?_⟩,⟨_,_,hR189⟩,⟨hmpf,List.nodup_nil,fun q hq=>by simp at hq,fun n x hx=>by cases hx⟩,⟨bm,hbf⟩,⟨_,hmsf,fun hno=>?_⟩⟩
   ·have k1:Keep M Q2 (foot p C):=(hKQ.trans hk159' (fun _ h _=>h) (by simp)).trans hkQ2 (fun _ h _=>h) (fun c hc hlt=>by rw[List.mem_singleton] at hc;omega)
    exact k1.trans hk189 (fun _ h _=>h) (fun c hc hlt=>by rw[List.mem_singleton] at hc;omega)
   ·rw[x7,hlost1,hS1x.2.1]
   ·rw[x6,hS1x.2.2.2.2.2]
    have h9:((nB S:Int)*(nG S:Int))=((nB S*nG S:Nat):Int):=by rw[Int.natCast_mul]
    omega
   ·rw[x5,hS1x.2.2.2.2.1]
    obtain⟨q,hq,_,_,e1⟩:=hfnd b k v hv
    rw[← e1];exact hm.epb.2.2 q hq
   ·rw[x5,hS1x.2.2.2.2.1]
    rcases hm.epb.2.1 with h0|⟨q,hq,e⟩
    ·exact .inl h0
    ·obtain⟨b,k,v,_,_,e3,e4,_⟩:=hm.lnk q hq
     exact .inr ⟨b,k,v,e3,by rw[← e4.2.2.2];exact e⟩
   ·have hl4:l4=[]:=by
     cases hl4:l4 with
     | nil=>rfl
     | cons f r=>
       exfalso
       have hf:f∈l4:=by rw[hl4];simp
       have h1:=hstl f hf
       obtain⟨b,k,v,hv,e⟩:=hstm f hf
       have h2:=hno b k v hv
       rw[e] at h1
       omega
    rw[hesQ2 hl4]
    rfl
def lowOf(x:Int)(n:Nat):Nat:=((x%18446744073709551616).tmod (n:Int)).toNat
theorem lowOf_lt(x:Int){n:Nat}(hn:0<n):lowOf x n<n:=by
 unfold lowOf
 have h0:0≤x%18446744073709551616:=Int.emod_nonneg _ (by omega)
 rw[Int.tmod_eq_emod_of_nonneg h0]
 have:=Int.emod_lt_of_pos (x%18446744073709551616) (show (0:Int)<n by omega)
 have:=Int.emod_nonneg (x%18446744073709551616) (show (n:Int)≠0 by omega)
 omega
theorem l_low(M:Mem)(x:Int)(n:Nat)(hn:0<n)(hn2:n<4611686018427387904):
 CallA tb.P 14 [i64 x,i64 (n:Int)] M fun y N=>y=i64 (lowOf x n:Int)∧N=M:=by
 have h0:0≤x%18446744073709551616:=Int.emod_nonneg _ (by omega)
 have e1:(n:Int)%18446744073709551616=n:=by omega
 have hnn:(n:Int)≠0:=by omega
 have hlt:=lowOf_lt x hn
 have h2:0≤(x%18446744073709551616).tmod (n:Int):=Int.tmod_nonneg _ h0
 have e2:(x%18446744073709551616).tmod (n:Int)=(lowOf x n:Int):=by unfold lowOf;omega
 refine F14_ok ?_
 unfold F14
 simp only[i64,zZi,wrap_u64,e1]
 refine bZi (eBin_some (v:= .val (.int .u64 (lowOf x n:Int))) ?_) ?_
 ·rw[evBin_int (by simp) (by simp)]
  simp only[intBin,hnn,decide_false,cond_false,e2,Option.map_some]
 ·simp only[zZi]
  rw[wrap_i64' (by omega) (by omega)]
  exact⟨rfl,by trivial⟩
def datF(z:Int)(n:Nat):Dat:=(List.range n).map fun i:Nat=>BitVec.ofInt 8 (z+(i:Int))
@[simp] theorem datF_len (z:Int) (n:Nat):(datF z n).length=n:=by simp[datF]
theorem datF_step(z:Int)(i:Nat):AV.val (.int .u8 (iAdd .u8 z (IntKind.wrap .u8 (i:Int))))=bv8 (BitVec.ofInt 8 (z+(i:Int))):=by
 unfold bv8
 rw[iAdd,wrap_u8,wrap_u8,BitVec.toNat_ofInt]
 congr 2
 have h1:((2^8:Nat):Int)=256:=by decide
 rw[h1]
 have:0≤(z+(i:Int))%256:=Int.emod_nonneg _ (by omega)
 omega
theorem datF_succ(z:Int)(k:Nat):datF z (k+1)=datF z k++[BitVec.ofInt 8 (z+(k:Int))]:=by
 unfold datF
 rw[List.range_succ,List.map_append,List.map_cons,List.map_nil]
theorem l_data(M:Mem)(hw:M.WF)(a:Int)(n:Nat)(hn0:0<n)(hn:n≤1000):CallA tb.P 16 [.val (.int .u8 a),i64 (n:Int)] M fun y N=>Keep M N []∧BytesAt N y (datF a n)∧∀ c,inBlk y c→M.next≤c:=by
 refine F16_ok ?_
 unfold F16
 simp only[i64,zZi]
 have hmk:=make_sl (T:=tb) (M:=M) ty37 rfl ty5 (l:=n) (c:=n) (by omega) (by simp only;omega) (by omega) (k1:= .i64) (k2:= .i64)
 refine bZi hmk ?_
 have hz:repA n (ofVs ([Value.int .u8 0]:List Value))=bvs (datF a 0++List.replicate (n-0) 0#8):=by
  simp only[ofVs,ofV,repA_one',datF,List.range_zero,List.map_nil,List.nil_append,Nat.sub_zero]
  simp[bvs,bv8]
 have hw1:(M.new (.cells (repA n (ofVs ([Value.int .u8 0]:List Value))) true)).WF:=hw.new _
 refine⟨fun z q P=>∃ (k:Nat),z=(k:Int)∧q=n-k∧k≤n∧Keep M P []∧P.get M.next=some (.cells (bvs (datF a k++List.replicate (n-k) 0#8)) true),⟨n,0,rfl,rfl,Nat.zero_le _,Keep.new hw _,by rw[get_new,hz]⟩,?_⟩
 rintro _ z q P ⟨k,rfl,rfl,hk,hK,hg⟩
 refine cZi (fun hlt=>?_) (fun hge=>?_)
 ·have hlt:k<n:=Int.ofNat_lt.1 (of_decide_eq_true hlt)
  have hia:eIA tb 37 (.sl M.next 0 n n none) (.val (.int .i64 (k:Int))) P=some (.ptr M.next k,P):=by
   refine eIA_some ?_
   unfold evIndexAddr
   rw[ty37]
   simp only[ty5,Int.toNat_natCast]
   have h0:decide (0≤(k:Int))=true:=by simp
   simp only[h0,blt_of hlt,cond_true]
   simp
  refine bZi hia ?_
  simp only[zZp]
  have hl:(bvs (datF a k++List.replicate (n-k) 0#8)).length=n:=by simp;omega
  refine bZi (sZs (st_cell ty5 rfl rfl hg (by omega))) ?_
  refine⟨n-(k+1),by omega,k+1,iInc (by omega),rfl,hlt,kZn hK (Nat.le_refl _) (hK.wf _ _ hg) _,?_⟩
  rw[Mem.get_put,if_pos rfl,datF_step,datF_succ]
  congr 2
  unfold bvs
  rw[← List.map_set]
  congr 1
  rw[List.append_assoc]
  have e:List.replicate (n-k) 0#8=0#8::List.replicate (n-(k+1)) 0#8:=by
   rw[show n-k=(n-(k+1))+1 by omega,List.replicate_succ]
  rw[e]
  have e2:=List.set_append_right (s:=datF a k) (t:=0#8::List.replicate (n-(k+1)) 0#8) k (BitVec.ofInt 8 (a+(k:Int))) (by simp)
  rw[datF_len,Nat.sub_self,List.set_cons_zero] at e2
  exact e2
 ·have hge:k=n:=by
   have:¬ (k:Int)<n:=by simpa using hge
   omega
  subst hge
  rw[Nat.sub_self,List.replicate_zero,List.append_nil] at hg
  refine⟨hK,⟨by simp,.inr ⟨_,_,_,_,by rw[datF_len],⟨by simp,.inl rfl⟩,.inr ⟨_,_,hg,by simp,?_⟩⟩⟩,fun c hc=>?_⟩
  ·rw[List.drop_zero,List.take_of_length_le (by simp)]
  ·have:c=M.next∨M.next=c:=by first|exact .inl hc.2|exact .inr hc.2
   omega
theorem l_in58(M:Mem)(a b c:Int):CallA tb.P 58 [i64 a,i64 b,i64 c] M fun y N=>y= .val (.bool (inB a b c))∧N=M:=by
 refine F58_ok ?_
 unfold F58 inB
 simp only[i64,zZi,letP_eq]
 refine cZi (fun h=>?_) (fun h=>?_)
 ·have h:b≤a:=by simpa using h
  simp[h]
 ·have h:¬ b≤a:=by simpa using h
  simp[h]
theorem l_half50(M:Mem)(hw:M.WF)(g:Geo)(h1:8≤g.bl∧g.bl≤20)(h2:4≤g.pg∧g.pg≤8)(h3:0≤g.sp∧g.sp≤4):CallA tb.P 50 [geoA g] M fun y N=>(∃ z,y=i64 z∧decide (z≥4)=decide (12≤(g.bl-g.sp-3)*g.pg))∧Keep M N []:=by
 refine F50_ok ?_
 unfold F50
 refine⟨_,_,_,_,_,rfl,?_⟩
 simp only[letP_eq]
 have hg:=get_new M (.cells (geoC g) true)
 obtain⟨l0,l1,l2,l3,l4,_⟩:=geo_ld hg
 have hK:=Keep.new hw (.cells (geoC g) true)
 refine bZi (lZs l0) ?_
 simp only[i64,zZi]
 refine bZi (lZs l3) ?_
 simp only[i64,zZi]
 refine bZi (lZs l1) ?_
 simp only[i64,zZi]
 obtain⟨e,hb1,hb2⟩:=half_eq h1 h2 h3
 rw[e]
 generalize (g.bl-g.sp-3)*g.pg=m at hb1 hb2 ⊢
 refine bZi (max_int _ _ _) ?_
 simp only[zZi]
 refine⟨⟨_,rfl,?_⟩,hK⟩
 have hp:0≤max (m-4) 0∧max (m-4) 0≤1000000:=by omega
 rw[iQuo,Int.tdiv_eq_ediv_of_nonneg hp.1,wrap_i64' (by omega) (by omega),decide_eq_decide]
 omega
theorem l_may22(M:Mem)(hw:M.WF)(g:Geo):CallA tb.P 22 [geoA g] M fun y N=>y= .val (.bool (mayG g))∧Keep M N []:=by
 refine F22_ok ?_
 unfold F22
 refine⟨_,_,_,_,_,rfl,?_⟩
 simp only[letP_eq]
 have hg:=get_new M (.cells (geoC g) true)
 obtain⟨l0,l1,l2,l3,l4,l5⟩:=geo_ld hg
 have hK:=Keep.new hw (.cells (geoC g) true)
 unfold mayG
 refine bZi (lZs l0) ?_
 simp only[i64,zZi]
 refine (l_in58 _ g.bl 8 20).mono ?_
 rintro y N ⟨rfl,rfl⟩
 simp only[zZb]
 generalize hh0:inB g.bl 8 20=q0
 refine cZi (fun h=>?_) (fun h=>⟨by rw[h];rfl,hK⟩)
 subst h
 rw[Bool.true_and]
 refine bZi (lZs l1) ?_
 simp only[i64,zZi]
 refine (l_in58 _ g.pg 4 8).mono ?_
 rintro y N ⟨rfl,rfl⟩
 simp only[zZb]
 generalize hh1:inB g.pg 4 8=q1
 refine cZi (fun h=>?_) (fun h=>⟨by rw[h];rfl,hK⟩)
 subst h
 rw[Bool.true_and]
 refine bZi (lZs l2) ?_
 simp only[i64,zZi]
 refine (l_in58 _ g.by' 24 64).mono ?_
 rintro y N ⟨rfl,rfl⟩
 simp only[zZb]
 generalize hh2:inB g.by' 24 64=q2
 refine cZi (fun h=>?_) (fun h=>⟨by rw[h];rfl,hK⟩)
 subst h
 rw[Bool.true_and]
 refine bZi (lZs l3) ?_
 simp only[i64,zZi]
 refine (l_in58 _ g.sp 0 4).mono ?_
 rintro y N ⟨rfl,rfl⟩
 simp only[zZb]
 generalize hh3:inB g.sp 0 4=q3
 refine cZi (fun h=>?_) (fun h=>⟨by rw[h];rfl,hK⟩)
 subst h
 rw[Bool.true_and]
 refine bZi (lZs l4) ?_
 simp only[i64,zZi]
 refine (l_in58 _ g.tr 2 20).mono ?_
 rintro y N ⟨rfl,rfl⟩
 simp only[zZb]
 generalize hh4:inB g.tr 2 20=q4
 refine cZi (fun h=>?_) (fun h=>⟨by rw[h];rfl,hK⟩)
 subst h
 rw[Bool.true_and]
 refine bZi (lZs l5) ?_
 refine⟨_,_,_,_,_,rfl,?_⟩
 unfold inB at hh0 hh1 hh3
 simp only[Bool.and_eq_true,decide_eq_true_eq] at hh0 hh1 hh3
 refine (l_half50 _ hK.wf g hh0 hh1 hh3).mono ?_
 rintro y N ⟨⟨z,rfl,hz⟩,hk2⟩
 simp only[i64,zZi]
 exact⟨by rw[hz],hK.trans0 hk2⟩
def IntsAt(M:Mem)(x:AV)(l:List Int):Prop:=SlAt 1 M x l.length (l.map i64)
theorem GrV.ints{M:Mem}{x:AV}{l:List Int}(h:GrV M x (l.map i64)):IntsAt M x l:=by
 have:=h.at
 unfold IntsAt
 unfold VsAt at this
 rwa [List.length_map] at this
theorem IntsAt.len{M M':Mem}{x:AV}{l:List Int}(h:IntsAt M x l):evLenCap tb false 25 x M'=some l.length:=SlAt.len h ty25 rfl
theorem IntsAt.at{M:Mem}{x:AV}{l:List Int}(h:IntsAt M x l){i:Nat}(hi:i<l.length):
 ∃ b o,evIndexAddr tb 25 x (.val (.int .i64 (i:Int)))=some (.ptr b o)∧evLoad tb 3 (.ptr b o) M=some (i64 l[i]):=by
 obtain⟨b,o,h1,_,h2,_⟩:=SlAt.at h ty25 rfl ty3 rfl hi (k':= .i64)
 refine⟨b,o,h1,?_⟩
 unfold evLoad
 rw[ty3]
 have:=h2 0 (by omega)
 simp only[Nat.add_zero,Nat.mul_one] at this
 rw[List.getElem?_map,List.getElem?_eq_getElem hi] at this
 simpa[TI.isAgg] using this
theorem l_sameInts(M:Mem)(x y:AV)(l m:List Int)(hx:IntsAt M x l)(hy:IntsAt M y m)(hl:l.length≤9223372036854775806):
 CallA tb.P 28 [x,y] M fun v N=>v= .val (.bool (decide (l=m)))∧N=M:=by
 refine F28_ok ?_
 unfold F28
 refine bZi (lZl hx.len) ?_
 simp only[zZi]
 refine bZi (lZl hy.len) ?_
 simp only[zZi]
 refine cZi (fun hne=>?_) (fun heq=>?_)
 ·have:l≠m:=fun h=>by subst h;simp at hne
  simp[this]
 ·have hlen:l.length=m.length:=by simp at heq;omega
  refine⟨fun z n N=>∃ i:Nat,z=i∧n=l.length-i∧i≤l.length∧N=M∧l.take i=m.take i,⟨l.length,0,rfl,rfl,Nat.zero_le _,rfl,by simp⟩,?_⟩
  rintro _ z n N ⟨i,rfl,rfl,hi,rfl,htk⟩
  refine bZi (lZl hx.len) ?_
  simp only[zZi]
  refine cZi (fun hlt=>?_) (fun hge=>?_)
  ·have hlt:i<l.length:=by simpa using hlt
   have hlt':i<m.length:=by omega
   obtain⟨b,o,hia,hld⟩:=hx.at hlt
   obtain⟨b',o',hia',hld'⟩:=hy.at hlt'
   refine bZi (eIA_some hia) ?_
   refine bZi (eIA_some hia') ?_
   refine bZi (lZs hld) ?_
   simp only[i64,zZi]
   refine bZi (lZs hld') ?_
   simp only[i64,zZi]
   refine cZi (fun hd=>?_) (fun hd=>?_)
   ·have hne:l[i]≠m[i]:=by simpa using hd
    have:l≠m:=fun h=>by subst h;exact hne rfl
    simp[this]
   ·have he:l[i]=m[i]:=by simpa using hd
    exact⟨l.length-(i+1),by omega,i+1,iInc (by omega),rfl,hlt,by trivial,by rw[List.take_succ_eq_append_getElem hlt,List.take_succ_eq_append_getElem hlt',htk,he]⟩
  ·have hge:i=l.length:=by have:¬ (i:Int)<l.length:=by simpa using hge
                           omega
   subst hge
   have:l=m:=by
    rw[List.take_of_length_le (Nat.le_refl _),List.take_of_length_le (by omega)] at htk
    exact htk
   simp[this]
structure LC (M0:Mem) (g:Geo) (k n:Int) (M:Mem) (p:Nat) (C:Chip) (S:Ps) (B:Int→Option Dat):Prop where
 wf:M.WF
 chip:ChipAt M p C
 rel:CRel C S
 q:Quiet S
 base:BaseOk S B
 neg:∀ p:Int,p<0→B p=none
 g:S.g=g
 ops:S.ops≤n
 ep:S.ep≤k
 ge:∀ c∈foot p C,M0.next≤c
 nx:M0.next≤M.next
 low:∀ c,c<M0.next→M.get c=M0.get c
structure LF (M0:Mem) (g:Geo) (k n:Int) (A:Adr) (M:Mem) (S:Ps) (P:Int→Option (Option Dat)) (B:Int→Option Dat):Prop where
 fm:FM A M S P B
 q:Quiet S
 base:BaseOk S B
 pend:PendOk S.g P
 neg:∀ p:Int,p<0→B p=none
 deg:S.deg=false
 g:S.g=g
 ops:S.ops≤n
 ep:S.ep≤k
 ext:∀ c∈A.ext,c<M.next
 ge:∀ c∈A.all,M0.next≤c
 nx:M0.next≤M.next
 low:∀ c,c<M0.next→M.get c=M0.get c
def NoP:Int→Option (Option Dat):=fun _=>none
theorem ovl_no(B:Int→Option Dat):ovl NoP B=B:=rfl
theorem Adr.mw_all{A:Adr}:∀ c∈A.mw,c∈A.all:=fun c hc=>by
 simp only[Adr.mw,Adr.wr,Adr.all,List.mem_cons] at hc ⊢
 rcases hc with h|h|h|h|h|h <;> simp[h]
theorem Adr.mp_all{A:Adr}:∀ c∈[A.mp],c∈A.all:=fun c hc=>by
 rw[List.mem_singleton] at hc
 simp[Adr.all,hc]
section
variable {M0:Mem} {g:Geo} {k n:Int} {A:Adr} {M:Mem} {S:Ps} {P:Int→Option (Option Dat)} {B:Int→Option Dat}
theorem LF.wf(h:LF M0 g k n A M S P B):M.WF:=h.fm.wf
theorem LF.hext(h:LF M0 g k n A M S P B):∀ c∈A.ext,c<M.next:=h.ext
theorem LF.lt(h:LF M0 g k n A M S P B):∀ c∈A.all,c<M.next:=fun c hc=>h.fm.av_lt h.hext c (by simp only[Adr.av,List.mem_append];exact .inl hc)
theorem low_step{N:Mem}{T:List Nat}(hl:∀ c,c<M0.next→M.get c=M0.get c)(hn:M0.next≤M.next)(hge:∀ c∈T,M0.next≤c)(hk:Keep M N T):∀ c,c<M0.next→N.get c=M0.get c:=fun c hc=>by
 rw[hk.old c (by omega) fun hm=>by have:=hge c hm;omega]
 exact hl c hc
theorem LF.keep{N:Mem}(h:LF M0 g k n A M S P B)(hk:Keep M N []):LF M0 g k n A N S P B:=
 { h with fm:=h.fm.post hk,ext:=fun c hc=>Nat.lt_of_lt_of_le (h.ext c hc) hk.nxt,nx:=Nat.le_trans h.nx hk.nxt,low:=low_step h.low h.nx (by simp) hk }
theorem MpOk.aside{pm:List (Int×AV)}{R:Int→Option (Option Dat)}{b:Nat}(h:MpOk M A b pm R)(hw:M.WF){T:List Nat}(hT:∀ c∈T,M.next≤c):MpOk M { A with ext:=T++A.ext } b pm R:=
 ⟨h.get,h.nd,fun q hq=>(h.ent q hq).imp id fun⟨d,e1,e2,e3,e4⟩=>⟨d,e1,e2,e3,fun c hc hm=>by
  have hlt:c<M.next:=by
   rcases e2.2 with⟨e5,e6⟩|⟨b',o,cp,ex,e5,_,e6⟩
   ·rw[e5] at hc;exact hc.elim
   ·rw[e5] at hc
    rcases e6 with e6|⟨cs,rw',e7,_⟩
    ·exact absurd e6 hc.1
    ·rw[← hc.2];exact hw _ _ e7
  simp only[Adr.av,List.mem_append] at hm
  rcases hm with hm|hm|hm
  ·exact e4 c hc (by simp only[Adr.av,List.mem_append];exact .inl hm)
  ·have:=hT c hm;omega
  ·exact e4 c hc (by simp only[Adr.av,List.mem_append];exact .inr hm)⟩,h.cov⟩
theorem FM.aside(h:FM A M S P B){T:List Nat}(hT:∀ c∈T,M.next≤c):FM { A with ext:=T++A.ext } M S P B:=by
 obtain⟨C,m,hr⟩:=h.fr
 obtain⟨pm,hp⟩:=h.pend
 obtain⟨bm,hb⟩:=h.base
 exact⟨⟨C,m,hr.aside hT⟩,⟨pm,hp.aside h.wf hT⟩,⟨bm,hb.aside h.wf hT⟩,h.stale⟩
theorem LF.aside{N:Mem}(h:LF M0 g k n A M S P B)(hk:Keep M N []){T:List Nat}(hT:∀ c∈T,M.next≤c∧c<N.next):LF M0 g k n { A with ext:=T++A.ext } N S P B:=
 { (h.keep hk) with fm:=(h.fm.aside fun c hc=>(hT c hc).1).post hk,ext:=fun c hc=>(List.mem_append.1 hc).elim (fun hc=>(hT c hc).2) (fun hc=>Nat.lt_of_lt_of_le (h.ext c hc) hk.nxt),ge:=h.ge }
theorem LF.mono{k' n':Int}(h:LF M0 g k n A M S P B)(hk:k≤k')(hn:n≤n'):LF M0 g k' n' A M S P B:=
 { h with ops:=Int.le_trans h.ops hn,ep:=Int.le_trans h.ep hk }
theorem LF.may(h:LF M0 g k n A M S P B):mayG g=true:=by rw[← h.g];exact h.q.inv.may
theorem LF.left(h:LF M0 g k n A M S P B):∃ C,LC M0 g k n M A.p C S B∧foot A.p C=A.ft:=by
 obtain⟨C,m,hr⟩:=h.fm.fr
 exact⟨C,⟨h.wf,hr.chip,hr.rel,h.q,h.base,h.neg,h.g,h.ops,h.ep,fun c hc=>h.ge c (by rw[hr.foot] at hc;simp[Adr.all,hc]),h.nx,h.low⟩,hr.foot⟩
theorem LF.len(h:LF M0 g k n A M S P B){z:Int}(hz:0≤z){d:Dat}(hd:ovl P B z=some d):(d.length:Int)=g.by':=by
 rw[← h.g]
 unfold ovl at hd
 cases hP:P z with
 | none=>rw[hP] at hd;exact (h.base.rng h.q.inv hz hd).2
 | some x=>rw[hP] at hd;subst hd;exact h.pend.len z d hP
theorem ls_mountW{p:Nat}{C:Chip}(h:LC M0 g k n M p C S B)(hn:n≤1000000000){T:List Nat}(hT:∀ c∈T,c<M.next∧¬ inBlk C.fsA c):CallA tb.P 12 [.ptr p 0] M fun y N=>∃ A S',y= .tup [.ptr A.f 0,i64 0]∧A.ext=T∧LF M0 g k (n+160) A N S' NoP B∧A.p=p∧A.ft=foot p C∧S'.fs=S.fs∧Keep M N (foot p C)∧(∀ c∈A.all,c∈foot p C∨M.next≤c)∧S'.x=S.x∧S'.g=S.g∧S.ops≤S'.ops∧S'.ops≤S.ops+(nB S:Int)*nG S:=by
 have hge:=h.q.inv.geo
 refine (f_mount M h.wf p C S h.chip h.rel h.q.inv (by have:=h.ops;omega) h.base h.neg hT).mono ?_
 rintro y N ⟨A,S',rfl,hm⟩
 have hnp:nB S*nG S≤160:=by
  have:nB S*nG S≤20*8:=Nat.mul_le_mul (by omega) (by omega)
  omega
 obtain⟨x1,x2,x3,x4⟩:=hm.x
 have x5:S'.now=S.now:=by rw[x4,h.q.now]
 have hS:S'={ S with seq:=S'.seq,ep:=S'.ep,deg:=S'.deg,ops:=S'.ops }:=by
  clear hm
  cases S'
  cases S
  simp only at x1 x2 x3 x5
  subst x1 x2 x3 x5
  rfl
 have hlx:=lastX_spec S
 have hle:∀ b k v,verAt S b k=some v→v.t.e≤lastX S:=fun b k v hv=>by rw[← h.q.ep];exact (h.q.inv.tag b k v hv).2.2.2.2
 have hep:S'.ep=lastX S:=by
  obtain⟨e1,e2⟩:=hm.ep
  refine Int.le_antisymm ?_ ?_
  ·rcases e2 with e2|⟨b,k,v,hv,e⟩
   ·rw[e2];exact hlx.2.1
   ·rw[← e];exact hle b k v hv
  ·rcases hlx.2.2 with e3|⟨b,i,v,hv,_,e⟩
   ·rw[e3]
    rcases e2 with e2|⟨b,k,v,hv,e⟩
    ·omega
    ·have:=(okL_may (h.q.inv.tag b k v hv).1).2.2.2.2.2.2.2.2.1
     omega
   ·rw[← e];exact e1 b i v hv
 have hl':lastX S'=lastX S:=by rw[hS];rfl
 have hlost:lostN S'=lostN S:=by rw[hS];rfl
 have hphi:phi S'=phi S:=by rw[hS];rfl
 obtain⟨C',m,hr⟩:=hm.fr
 obtain⟨es,hes,hes0⟩:=hm.stale
 obtain⟨bm,hbm⟩:=hm.base
 have hall:∀ c∈A.all,M0.next≤c:=fun c hc=>by
  have:=hm.new
  have:=hm.adr
  have:=h.nx
  simp only[Adr.all,List.mem_cons] at hc
  rcases hc with rfl|rfl|rfl|rfl|rfl|hc
  ·omega
  ·omega
  ·omega
  ·omega
  ·omega
  ·rw[hm.ft] at hc;exact h.ge c hc
 have hb':BaseOk S' B:=h.base.same ⟨hl',x5,fun c k p e d=>by rw[hS];exact Iff.rfl⟩
 refine⟨A,S',rfl,hm.ext,⟨⟨⟨C',m,hr⟩,⟨_,hm.pend⟩,⟨bm,hbm⟩,?_⟩,⟨hr.inv,x4,by rw[hep,hl'],?_,?_⟩,hb',⟨fun n x hx=>(by cases hx),fun n d hx=>(by cases hx)⟩,h.neg,?_,by rw[x2];exact h.g,?_,?_,(by rw[hm.ext];exact fun c hc=>Nat.lt_of_lt_of_le (hT c hc).1 hm.keep.nxt),hall,Nat.le_trans h.nx hm.keep.nxt,low_step h.low h.nx h.ge hm.keep⟩,hm.ap,hm.ft,x3,hm.keep,fun c hc=>?_,x1,x2,hm.ops.1,hm.ops.2⟩
 rotate_right
 ·have:=hm.new
  have:=hm.adr
  simp only[Adr.all,List.mem_cons] at hc
  rcases hc with rfl|rfl|rfl|rfl|rfl|hc
  ·right;omega
  ·right;omega
  ·right;omega
  ·right;omega
  ·right;omega
  ·left;rw[← hm.ft];exact hc
 ·rw[hes,hes0 hle]
 ·rw[hlost,x2];exact h.q.lost
 ·rw[hphi,x2];exact h.q.phi
 ·rw[hm.deg]
  have:=h.q.lost
  simp[this]
 ·have h1:=hm.ops.2
  have h2:=h.ops
  have h3:(nB S:Int)*nG S≤160:=by exact_mod_cast hnp
  omega
 ·rw[hep,← h.q.ep];exact h.ep
theorem ls_mountT{p:Nat}{C:Chip}(h:LC M0 g k n M p C S B)(hn:n≤1000000000){T:List Nat}(hT:∀ c∈T,c<M.next∧¬ inBlk C.fsA c):CallA tb.P 12 [.ptr p 0] M fun y N=>∃ A S',y= .tup [.ptr A.f 0,i64 0]∧A.ext=T∧LF M0 g k (n+160) A N S' NoP B∧A.p=p∧A.ft=foot p C∧S'.fs=S.fs∧Keep M N (foot p C)∧∀ c∈A.all,c∈foot p C∨M.next≤c:=
 (ls_mountW h hn hT).mono fun y N ⟨A,S',h1,h2,h3,h4,h5,h6,h7,h8,_⟩=>⟨A,S',h1,h2,h3,h4,h5,h6,h7,h8⟩
theorem ls_mount{p:Nat}{C:Chip}(h:LC M0 g k n M p C S B)(hn:n≤1000000000):CallA tb.P 12 [.ptr p 0] M fun y N=>∃ A S',y= .tup [.ptr A.f 0,i64 0]∧LF M0 g k (n+160) A N S' NoP B∧A.p=p∧A.ft=foot p C∧S'.fs=S.fs∧Keep M N (foot p C)∧∀ c∈A.all,c∈foot p C∨M.next≤c:=
 (ls_mountT h hn (T:=[]) (fun c hc=>by simp at hc)).mono fun y N ⟨A,S',h1,_,h2⟩=>⟨A,S',h1,h2⟩
theorem ls_write(h:LF M0 g k n A M S P B){z:Int}(hz:0≤z∧z<logG g){w:AV}{d:Dat}(hw:BytesAt M w d)(hd:(d.length:Int)=g.by'):
 CallA tb.P 15 [.ptr A.f 0,i64 z,w] M fun y N=>y=i64 0∧LF M0 g k n A N S (updN P z (some d)) B∧Keep M N A.all:=by
 have hm:=mayG_iff.1 h.may
 refine (j_write h.fm h.hext (z:=z) (by rw[h.g];exact hz) hw (by rw[h.g];exact hd) ⟨by omega,by omega⟩).mono ?_
 rintro y N ⟨h1,_⟩
 obtain⟨rfl,hf,hk⟩:=h1 h.deg
 refine⟨rfl,{ h with fm:=hf,pend:=⟨fun n x hx=>?_,fun n d' hx=>?_⟩,ext:=fun c hc=>Nat.lt_of_lt_of_le (h.ext c hc) hk.nxt,nx:=Nat.le_trans h.nx hk.nxt,low:=low_step h.low h.nx (fun c hc=>h.ge c (Adr.mp_all c hc)) hk },hk.mono fun c hc _=>Adr.mp_all c hc⟩
 ·unfold updN at hx
  split at hx
  ·rename_i e;subst e;rw[h.g];exact hz
  ·exact h.pend.rng n x hx
 ·unfold updN at hx
  split at hx
  ·injection hx with hx;injection hx with hx;subst hx;rw[h.g];exact hd
  ·exact h.pend.len n d' hx
theorem ls_flushW(h:LF M0 g k n A M S P B)(hfs:(S.fs.length:Int)≤g.sp)(hn:n≤900000000)(hk:k≤16777214):
 CallA tb.P 17 [.ptr A.f 0] M fun y N=>y=i64 0∧∃ S',LF M0 g (k+1) (n+31000) A N S' NoP (ovl P B)∧S'.fs=S.fs∧Keep M N A.all∧(S'=S∨S'=(flushX S (act P B (zer S.g))).1∧(flushX S (act P B (zer S.g))).2=0):=by
 have hge:=h.q.inv.geo
 have hK0:putK S=9*(nB S+1)+1:=rfl
 have hops:=h.ops
 have hep:=h.ep
 refine (j_flush h.fm h.hext h.q h.pend h.deg (by omega) (by omega)).mono ?_
 rintro y N ⟨h1,h2⟩
 by_cases hP:∀ n,P n=none
 ·obtain⟨rfl,hf,hk'⟩:=h1 hP
  have e:P=NoP:=funext hP
  subst e
  exact⟨rfl,S,{ h with fm:=hf,ops:=by omega,ep:=by omega,ext:=fun c hc=>Nat.lt_of_lt_of_le (h.ext c hc) hk'.nxt,nx:=Nat.le_trans h.nx hk'.nxt,low:=low_step h.low h.nx (fun c hc=>h.ge c (Adr.mw_all c hc)) hk' },rfl,hk'.mono (fun c hc _=>Adr.mw_all c hc),.inl rfl⟩
 ·obtain⟨rfl,hk',h3,h4⟩:=h2 hP
  have hfl:=flush_ok (P:=P) (B:=B) h.q h.base h.pend (by omega) (by omega)
  obtain⟨e1,e2⟩:=hfl.env
  rcases hfl.code with⟨c0,hq,hd,he,hb⟩|⟨_,_,hlo,_⟩
  ·refine⟨by rw[c0],_,⟨h3 c0,hq,hb,⟨fun n x hx=>(by cases hx),fun n d hx=>(by cases hx)⟩,fun p hp=>?_,by rw[hd];exact h.deg,by rw[e1];exact h.g,?_,by omega,(fun c hc=>Nat.lt_of_lt_of_le (h.ext c hc) hk'.nxt),h.ge,Nat.le_trans h.nx hk'.nxt,low_step h.low h.nx (fun c hc=>h.ge c (Adr.mw_all c hc)) hk'⟩,e2,hk'.mono (fun c hc _=>Adr.mw_all c hc),.inr ⟨rfl,c0⟩⟩
   ·unfold ovl
    cases hPp:P p with
    | none=>exact h.neg p hp
    | some x=>have:=(h.pend.rng p x hPp).1;omega
   ·have ho:=hfl.ops.2
    have hnp:nB S*nG S+1≤161:=by
     have:nB S*nG S≤20*8:=Nat.mul_le_mul (by omega) (by omega)
     omega
    have:putK S*((nB S*nG S+1:Nat):Int)≤190*161:=by
     refine Int.mul_le_mul (by omega) (by omega) (by omega) (by omega)
    generalize putK S*((nB S*nG S+1:Nat):Int)=X at ho this
    omega
  ·exfalso
   have:=lostN_le (flushX S (act P B (zer S.g))).1
   rw[e2] at this
   have e0:S.g.sp=g.sp:=by rw[h.g]
   omega
theorem ls_flush(h:LF M0 g k n A M S P B)(hfs:(S.fs.length:Int)≤g.sp)(hn:n≤900000000)(hk:k≤16777214):
 CallA tb.P 17 [.ptr A.f 0] M fun y N=>y=i64 0∧∃ S',LF M0 g (k+1) (n+31000) A N S' NoP (ovl P B)∧S'.fs=S.fs∧Keep M N A.all:=
 (ls_flushW h hfs hn hk).mono fun y N ⟨h1,S',h2,h3,h4,_⟩=>⟨h1,S',h2,h3,h4⟩
theorem ls_read(h:LF M0 g k n A M S P B){z:Int}(hz:0≤z∧z<logG g):
 CallA tb.P 30 [.ptr A.f 0,i64 z] M fun y N=>LF M0 g k n A N S P B∧Keep M N []∧((ovl P B z=none∧y= .tup [nilS,i64 4])∨∃ x d,ovl P B z=some d∧y= .tup [x,i64 0]∧Gr N x d∧∀ c,inBlk x c→M.next≤c):=by
 have hm:=mayG_iff.1 h.may
 refine (j_read h.fm (z:=z) (by rw[h.g];exact hz) fun d hd=>?_).mono fun y N ⟨hk,h2⟩=>⟨h.keep hk,hk,h2⟩
 have:=h.len hz.1 hd
 omega
theorem ls_pages(h:LF M0 g k n A M S P B):CallA tb.P 29 [.ptr A.f 0] M fun y N=>LF M0 g k n A N S P B∧IntsAt N y (pgN (ovl P B) (logG g).toNat)∧Keep M N []∧∀ c,inBlk y c→M.next≤c:=by
 refine (j_pages h.fm).mono fun y N ⟨h1,h2,h3⟩=>⟨h.keep h2,?_,h2,h3⟩
 rw[h.g] at h1
 exact h1.ints
theorem ls_logical(h:LF M0 g k n A M S P B):CallA tb.P 20 [.ptr A.f 0] M fun y N=>y=i64 (logG g)∧LF M0 g k n A N S P B∧Keep M N []:=by
 obtain⟨C,m,hr⟩:=h.fm.fr
 refine (f_logical M h.wf A.f (flOf A S) A.p C hr.flat).mono fun y N ⟨h1,h2⟩=>⟨?_,h.keep h2,h2⟩
 rw[h1,hr.rel.g,h.g]
end
def newPs(g:Geo)(fs:List Flt):Ps:=⟨g,fs,List.replicate g.bl.toNat ⟨[],0,0⟩,0,0,0,false,0⟩
theorem new_ver(g:Geo)(fs:List Flt)(b i:Nat):verAt (newPs g fs) b i=none:=by
 unfold verAt newPs
 simp only[List.getElem?_replicate]
 split
 ·rename_i B hB
  split at hB
  ·injection hB with hB;subst hB;rfl
  ·cases hB
 ·rfl
theorem new_used(g:Geo)(fs:List Flt)(b:Nat):xUsed (newPs g fs) b=0:=by
 unfold xUsed newPs
 simp only[List.getElem?_replicate]
 split
 ·rename_i B hB
  split at hB
  ·injection hB with hB;subst hB;rfl
  ·cases hB
 ·rfl
theorem new_inv{g:Geo}(hg:mayG g=true)(fs:List Flt):PInv (newPs g fs):=by
 refine⟨hg,by simp[newPs,nB],fun b=>by rw[new_used];exact Nat.zero_le _,⟨fun b i v hv=>?_,fun b i v b' i' v' hv _ _=>?_⟩,fun b i v hv=>?_,fun b _=>new_used g fs b,⟨Int.le_refl _,Int.le_refl _⟩,fun b B hB=>?_⟩
 ·rw[new_ver] at hv;cases hv
 ·rw[new_ver] at hv;cases hv
 ·rw[new_ver] at hv;cases hv
 ·simp only[newPs,List.getElem?_replicate] at hB
  split at hB
  ·injection hB with hB;subst hB
   exact⟨Int.le_refl _,Int.le_refl _,Int.le_refl _,Int.le_refl _⟩
  ·cases hB
theorem fresh_last(g:Geo)(fs:List Flt):lastX (newPs g fs)=0:=by
 obtain⟨_,_,h|⟨b,i,v,hv,_⟩⟩:=lastX_spec (newPs g fs)
 ·exact h
 ·rw[new_ver] at hv;cases hv
theorem cnt_all{n:Nat}{is:Nat→Bool}(h:∀ b,b<n→is b=true):cnt n is=n:=by
 induction n with
 | zero=>rfl
 | succ n ih=>rw[cnt_succ,ih fun b hb=>h b (by omega),h n (by omega)];rfl
theorem new_quiet{g:Geo}(hg:mayG g=true){fs:List Flt}(hl:(lostN (newPs g fs):Int)≤g.sp):Quiet (newPs g fs):=by
 have hm:=mayG_iff.1 hg
 refine⟨new_inv hg fs,rfl,(fresh_last g fs).symm,hl,?_⟩
 have:phi (newPs g fs)=nB (newPs g fs):=cnt_all fun b _=>by unfold xFL;rw[new_used];simp
 rw[this]
 have:nB (newPs g fs)=g.bl.toNat:=rfl
 show 2+g.sp≤_
 omega
theorem new_base(g:Geo)(fs:List Flt):BaseOk (newPs g fs) (fun _=>none):=fun p hp d=>by
 refine⟨fun h=>(by cases h),fun⟨e,b,i,v,hb,_⟩=>?_⟩
 have:=hb.1
 rw[new_ver] at this;cases this
theorem new_rel{g:Geo}{fs:List Flt}{fsA:AV}{bb:Nat}{bs:List Blk}(hb:blank g bs)(hl:bs.length=g.bl.toNat):CRel (newChip g fsA fs bb bs) (newPs g fs):=by
 refine⟨rfl,rfl,⟨rfl,rfl,rfl⟩,rfl,fun b B hB=>?_⟩
 have hB:bs[b]? =some B:=hB
 have hlt:=(List.getElem?_eq_some_iff.1 hB).1
 have hm:=List.mem_of_getElem? hB
 have e:=hb B hm
 refine⟨⟨[],0,0⟩,by simp only[newPs,List.getElem?_replicate];rw[if_pos (by omega)],by rw[e];rfl,by rw[e];rfl,by rw[e];rfl,fun j v hv=>by simp at hv,fun j _ hj=>?_⟩
 rw[e]
 show List.take _ (List.drop _ (List.replicate _ _))=_
 rw[List.drop_replicate,List.take_replicate]
 congr 1
 have hj:j<g.pg.toNat:=hj
 have:(j+1)*rawN g≤g.pg.toNat*rawN g:=Nat.mul_le_mul_right _ hj
 rw[Nat.add_mul,Nat.one_mul] at this
 show min (rawN g) (g.pg.toNat*rawN g-j*rawN g)=rawN g
 omega
theorem new_left{M N:Mem}{g:Geo}{fs:List Flt}{p:Nat}{fsA:AV}{bb:Nat}{bs:List Blk}(hg:mayG g=true)(hl:(lostN (newPs g fs):Int)≤g.sp)(hk:Keep M N [])(hc:ChipAt N p (newChip g fsA fs bb bs))(hb:blank g bs)(hf:∀ c∈foot p (newChip g fsA fs bb bs),M.next≤c):
 LC M g 0 0 N p (newChip g fsA fs bb bs) (newPs g fs) (fun _=>none):=
 ⟨hk.wf,hc,new_rel hb hc.len,new_quiet hg hl,new_base g fs,fun _ _=>rfl,rfl,Int.le_refl _,Int.le_refl _,hf,hk.nxt,fun c hc=>hk.old c hc (by simp)⟩
theorem ovl_upd{P:Int→Option (Option Dat)}{B:Int→Option Dat}{a:Int}{x:Option Dat}(z:Int):ovl (updN P a x) B z=if z=a then x else ovl P B z:=by
 unfold ovl updN
 by_cases h:z=a
 ·rw[if_pos h,if_pos h]
 ·rw[if_neg h,if_neg h]
theorem nil_eq28{p:Nat}{M:Mem}{xo yo:Operand}:eBin tb .eql 28 xo yo (.ptr p 0) (.val (.pointer none)) M=some (.val (.bool false),M):=eBin_some (by kernel_rfl)
theorem ptr_eq28{p:Nat}{M:Mem}{xo yo:Operand}:eBin tb .eql 28 xo yo (.ptr p 0) (.ptr p 0) M=some (.val (.bool true),M):=by
 refine eBin_some ?_
 have h75:(match tb.ty.get 75 with|some te=>Nat.beq te.size 0|none=>true)=false:=by kernel_rfl
 show eqRes .eql (addrEq tb 28 (.ptr p 0) (.ptr p 0))=_
 unfold addrEq
 rw[ty28]
 cases hh:tb.ty.get 75 with
 | none=>rw[hh] at h75;cases h75
 | some te=>
   rw[hh] at h75
   simp only at h75
   simp only[hh,h75,cond_false,AM.beq_self,cond_true]
   rfl
theorem ints_one{M:Mem}(a:Int):IntsAt (M.new (.cells [.val (.int .i64 a)] true)) (.sl M.next 0 1 1 none) [a]:=
 ⟨rfl,.inr ⟨_,_,_,_,rfl,⟨Nat.le_refl _,.inl rfl⟩,.inr ⟨_,_,get_new _ _,Nat.le_refl _,rfl⟩⟩⟩
theorem IntsAt.keep{M N:Mem}{x:AV}{l:List Int}(h:IntsAt M x l)(hw:M.WF)(hk:Keep M N []):IntsAt N x l:=SlAt.keep0 h hw hk
theorem BytesAt.keep0{M N:Mem}{x:AV}{l:List (BitVec 8)}(h:BytesAt M x l)(hw:M.WF)(hk:Keep M N []):BytesAt N x l:=SlAt.keep0 h hw hk
def awG:Geo:=⟨8,4,32,0,2⟩
theorem aw_may:mayG awG=true:=by decide
theorem aw_log:logG awG=8:=by decide
theorem l_awake(M:Mem)(hw:M.WF):CallA tb.P 10 [] M fun y N=>y= .val (.bool true):=by
 refine F10_ok ?_
 unfold F10
 refine F35_ok ?_
 unfold F35
 refine lZi fun M1 hM1=>?_
 have hM1:M1=M.new (.cells [i64 0,i64 0,i64 0,i64 0,i64 0] true):=hM1
 have hk1:Keep M M1 []:=by rw[hM1];exact Keep.new hw _
 have hg1:M1.get M.next=some (.cells [i64 0,i64 0,i64 0,i64 0,i64 0] true):=by rw[hM1];exact get_new _ _
 refine bZi (geo_st awG hg1 rfl) ?_
 have hk2:Keep M (M1.put M.next (.cells (geoC awG) true)) []:=kZn hk1 (Nat.le_refl _) (hk1.wf _ _ hg1) _
 refine bZi (geo_res (g:=awG) (by rw[Mem.get_put,if_pos rfl])) ?_
 generalize M1.put M.next (.cells (geoC awG) true)=M2 at hk2 ⊢
 refine⟨_,_,_,_,_,rfl,?_⟩
 refine (c_new M2 hk2.wf awG _ [] (SlAt.nil) (by simp)).mono ?_
 rintro y8 M9 ⟨hk9,h9⟩
 rcases h9 with⟨hno,_⟩|⟨_,p,fsA,bb,bs,rfl,hc,hb,hf,hfi⟩
 ·exact absurd hno (by decide)
 have hlost:(lostN (newPs awG []):Int)≤awG.sp:=by decide
 have hL:=new_left aw_may hlost hk9 hc hb hf
 refine (ls_mount hL (by decide)).mono ?_
 rintro _ M11 ⟨A,S,rfl,hF,hAp,_,hfs,_⟩
 refine⟨_,_,rfl,?_⟩
 refine lZi fun K17 hK17=>?_
 refine cZi (fun h=>absurd h (by decide)) fun _=>?_
 refine bZi nil_eq22 ?_
 simp only[zZb]
 rw[hK17]
 dsimp only
 simp only[cZf]
 clear hK17
 clear K17
 refine (l_data M11 hF.wf 9 32 (by decide) (by decide)).mono ?_
 rintro y18 M19 ⟨hk19,hy,_⟩
 refine (ls_write (hF.keep hk19) (z:=2) (by rw[aw_log];decide) hy (by rw[datF_len];rfl)).mono ?_
 rintro _ M21 ⟨rfl,hF,_⟩
 simp only[i64,zZi]
 refine (ls_flush hF (by rw[hfs];decide) (by decide) (by decide)).mono ?_
 rintro _ M24 ⟨rfl,S2,hF,hfs2,_⟩
 simp only[i64,zZi]
 obtain⟨C1,hL1,_⟩:=hF.left
 rw[hAp] at hL1
 refine (ls_mount hL1 (by decide)).mono ?_
 rintro _ M27 ⟨A,S3,rfl,hF,hAp,_,hfs3,_⟩
 refine⟨_,_,rfl,?_⟩
 refine lZi fun K33 hK33=>?_
 refine cZi (fun h=>absurd h (by decide)) fun _=>?_
 refine bZi nil_eq22 ?_
 simp only[zZb]
 rw[hK33]
 dsimp only
 simp only[cZf]
 clear hK33
 clear K33
 have hv:∀ z,ovl NoP (ovl (updN NoP 2 (some (datF 9 32))) (fun _=>none)) z=if z=2 then some (datF 9 32) else none:=fun z=>by rw[ovl_no,ovl_upd];rfl
 refine (ls_read hF (z:=2) (by rw[aw_log];decide)).mono ?_
 rintro y34 M35 ⟨hF,_,hr⟩
 rcases hr with⟨hn,_⟩|⟨x,d,hd,rfl,hgr,_⟩
 ·rw[hv,if_pos rfl] at hn;cases hn
 rw[hv,if_pos rfl] at hd
 injection hd with hd
 subst hd
 refine⟨_,_,rfl,?_⟩
 have hx:=hgr.at
 have hw35:=hF.wf
 refine (ls_read hF (z:=3) (by rw[aw_log];decide)).mono ?_
 rintro y38 M39 ⟨hF,hk39,hr⟩
 rcases hr with⟨_,rfl⟩|⟨x3,d3,hd3,_⟩
 rotate_left
 ·rw[hv,if_neg (by decide)] at hd3;cases hd3
 have hx:=hx.keep0 hw35 hk39
 refine⟨_,_,rfl,?_⟩
 refine lZi fun K62 hK62=>?_
 refine cZi (fun _=>?_) fun h=>absurd h (by decide)
 refine cZi (fun _=>?_) fun h=>absurd h (by decide)
 refine cZi (fun _=>?_) fun h=>absurd h (by decide)
 refine (l_data M39 hF.wf 9 32 (by decide) (by decide)).mono ?_
 rintro y42 M43 ⟨hk43,hy,_⟩
 have hx:=hx.keep0 hF.wf hk43
 have hF:=hF.keep hk43
 refine (same_bytes M43 _ _ _ _ hx hy (by rw[datF_len];decide)).mono ?_
 rintro _ _ ⟨rfl,rfl⟩
 have ed:decide (datF 9 32=datF 9 32)=true:=decide_eq_true rfl
 simp only[zZb,ed,cZt]
 refine cZi (fun _=>?_) fun h=>absurd h (by decide)
 refine (ls_logical hF).mono ?_
 rintro _ M48 ⟨rfl,hF,_⟩
 simp only[i64,zZi,aw_log]
 refine cZi (fun _=>?_) fun h=>absurd h (by decide)
 refine (ls_pages hF).mono ?_
 rintro y50 M51 ⟨hF,hy5,_,_⟩
 refine lZi fun M52 hM52=>?_
 have hk52:Keep M51 M52 []:=by rw[show M52=_ from hM52];exact Keep.new hF.wf _
 have hone:IntsAt M52 (.sl M51.next 0 1 1 none) [2]:=by rw[show M52=_ from hM52];exact ints_one _
 have hp:pgN (ovl NoP (ovl (updN NoP 2 (some (datF 9 32))) (fun _=>none))) (logG awG).toNat=[2]:=by
  rw[aw_log];decide
 rw[hp] at hy5
 refine (l_sameInts M52 _ _ _ _ (hy5.keep hF.wf hk52) hone (by decide)).mono ?_
 rintro _ _ ⟨rfl,rfl⟩
 simp only[zZb,decide_true,cZt]
 have hF:=hF.keep hk52
 obtain⟨C2,m2,hr⟩:=hF.fm.fr
 refine (f_chip _ A.f (flOf A S3) A.p C2 hr.flat).mono ?_
 rintro _ M57 ⟨rfl,rfl⟩
 rw[hAp]
 refine bZi ptr_eq28 ?_
 simp only[zZb]
 rw[hK62]
theorem l_low'(M:Mem)(x z:Int)(h0:0<z)(h1:z<4611686018427387904):CallA tb.P 14 [i64 x,i64 z] M fun y N=>y=i64 (lowOf x z.toNat:Int)∧N=M:=by
 have e:((z.toNat:Nat):Int)=z:=by omega
 have:=l_low M x z.toNat (by omega) (by omega)
 rwa [e] at this
section
variable {M0:Mem} {g:Geo} {k n:Int} {A:Adr} {M:Mem} {S:Ps} {P:Int→Option (Option Dat)} {B:Int→Option Dat}
theorem LF.box(h:LF M0 g k n A M S P B){q:Nat}(hq:M0.get q=some (.cells (geoC g) true))(hlt:q<M0.next):evLoad tb 3 (.ptr q 2) M=some (i64 g.by')∧evLoad tb 23 (.ptr q 0) M=some (geoA g):=by
 have:=geo_ld (M:=M) (b:=q) (g:=g) (rw':=true) (by rw[h.low _ hlt];exact hq)
 exact⟨this.2.2.1,this.2.2.2.2.2⟩
end
def fewF(g:Geo)(fs:List Flt):Bool:=decide ((fs.length:Int)≤8)&&(mayP g fs&&decide ((fs.length:Int)≤g.sp))
theorem FltsAt.keep0{M N:Mem}{x:AV}{fs:List Flt}(h:FltsAt M x fs)(hw:M.WF)(hk:Keep M N []):FltsAt N x fs:=SlAt.keep0 h hw hk
theorem l_logical13(M:Mem)(hw:M.WF)(g:Geo)(hg:mayG g=true):CallA tb.P 13 [geoA g] M fun y N=>y=i64 (logG g)∧Keep M N []:=by
 have hm:=mayG_iff.1 hg
 refine F13_ok ?_
 unfold F13
 refine⟨_,_,_,_,_,rfl,?_⟩
 refine lZi fun M6 hM6=>?_
 have hM6:M6=M.new (.cells (geoC g) true):=hM6
 have hk6:Keep M M6 []:=by rw[hM6];exact Keep.new hw _
 have hbox:M6.get M.next=some (.cells (geoC g) true):=by rw[hM6];exact get_new _ _
 obtain⟨_,_,_,_,_,l5⟩:=geo_ld hbox
 refine bZi (lZs l5) ?_
 refine⟨_,_,_,_,_,rfl,?_⟩
 refine (l_may22 M6 hk6.wf g).mono ?_
 rintro y N ⟨rfl,hk⟩
 simp only[zZb,hg,Bool.not_true,cZf]
 have hbox':=hk.get hk6.wf hbox (by simp)
 obtain⟨_,_,_,_,_,l5⟩:=geo_ld hbox'
 refine bZi (lZs l5) ?_
 refine⟨_,_,_,_,_,rfl,?_⟩
 have hkN:=hk6.trans0 hk
 clear hM6
 refine F50_ok ?_
 unfold F50
 refine⟨_,_,_,_,_,rfl,?_⟩
 simp only[letP_eq]
 have hg5:=get_new N (.cells (geoC g) true)
 obtain⟨q0,q1,q2,q3,q4,_⟩:=geo_ld hg5
 have hK:=Keep.new hk.wf (.cells (geoC g) true)
 refine bZi (lZs q0) ?_
 simp only[i64,zZi]
 refine bZi (lZs q3) ?_
 simp only[i64,zZi]
 refine bZi (lZs q1) ?_
 simp only[i64,zZi]
 refine bZi (max_int _ _ _) ?_
 simp only[zZi]
 obtain⟨e,hb1,hb2⟩:=half_eq ⟨hm.1.1,hm.1.2⟩ ⟨hm.2.1.1,hm.2.1.2⟩ ⟨hm.2.2.2.1.1,hm.2.2.2.1.2⟩
 refine⟨?_,hkN.trans0 hK⟩
 unfold logG
 rw[e,show max ((g.bl-g.sp-3)*g.pg-4) 0=(g.bl-g.sp-3)*g.pg-4 by omega]
theorem GrV.growA{M:Mem}{x:AV}{l:List AV}{b:Nat}{v:AV}(hw:M.WF)(h:GrV M x l)(hb:M.get b=some (.cells [v] true))(hv:v.one=true)(hl:l.length≤10000):
 ∃ x' N,evAppend tb 25 25 x (.sl b 0 1 1 none) M=some (x',N)∧GrV N x' (l++[v])∧N.WF∧M.next≤N.next∧(∀ c,c<M.next→¬ inBlk x c→N.get c=M.get c)∧∀ c,inBlk x' c→M.next≤c:=by
 have hsl:SlAt 1 M (.sl b 0 1 1 none) 1 [v]:=⟨rfl,.inr ⟨_,_,_,_,rfl,⟨Nat.le_refl _,.inl rfl⟩,.inr ⟨_,_,hb,by simp,by simp⟩⟩⟩
 rcases h with⟨rfl,rfl⟩|⟨b',hg⟩
 ·obtain⟨N,h1,rfl⟩:=append_nil (T:=tb) (k:=1) ty25 rfl ty3 rfl hsl (by omega) ⟨by simp only;omega,by omega⟩
  refine⟨_,_,h1,.inr ⟨M.next,rfl,by simp,by simp,get_new _ _⟩,hw.new _,Nat.le_succ _,fun c hc _=>by rw[Mem.get_new,if_neg (by omega)],fun c hc=>by rw[← hc.2];exact Nat.le_refl _⟩
 ·have hbM:=hw _ _ hg.2.2.2
  obtain⟨N,h1,rfl⟩:=append_grown (T:=tb) (k:=1) ty25 rfl ty3 rfl hg hsl (by omega) (fun u hu=>by rw[List.mem_singleton.1 hu];exact hv) ⟨by simp only;omega,by omega⟩
  refine⟨_,_,h1,.inr ⟨M.next,by simp,by simp,by simp,?_⟩,(hw.kill _).new _,Nat.le_succ _,fun c hc hn=>?_,fun c hc=>by rw[← hc.2];exact Nat.le_refl _⟩
  ·rw[Mem.get_new,if_pos (by rfl)]
  ·have hcb:c≠b':=fun he=>hn (by rw[he,hg.1];exact⟨by have:=hg.2.1;omega,rfl⟩)
   rw[Mem.get_new,if_neg (by show c≠M.next;omega),Mem.get_kill,if_neg hcb]
structure Bgn (M P:Mem) (q:Nat) (x y:AV) (n:Nat):Prop where
 keep:Keep M P []
 main:P.get q=some (.cells [x,y,nilS,.val (.bool false)] true)
 ge:M.next≤q
 xs:GrV P x (List.replicate n (i64 (-1)))
 ys:GrV P y (List.replicate n (i64 (-1)))
 xq:∀ c,inBlk x c→M.next≤c∧c≠q
 yq:∀ c,inBlk y c→M.next≤c∧c≠q
 xy:∀ c,inBlk x c→¬ inBlk y c
theorem GrV.lt{M:Mem}{x:AV}{l:List AV}(h:GrV M x l)(hw:M.WF):∀ c,inBlk x c→c<M.next:=fun c hc=>by
 rcases h with⟨rfl,_⟩|⟨b,h1,_,_,h4⟩
 ·exact hc.elim
 ·rw[h1] at hc
  rw[← hc.2]
  exact hw _ _ h4
theorem l_begun(M:Mem)(hw:M.WF)(n:Nat)(hn:n≤1000):CallA tb.P 33 [i64 (n:Int)] M fun y N=>∃ q u v,y= .ptr q 0∧Bgn M N q u v n:=by
 refine F33_ok ?_
 unfold F33
 simp only[i64,zZi]
 refine lZi fun M2 hM2=>?_
 have hM2:M2=M.new (.cells [nilS,nilS,nilS,.val (.bool false)] true):=hM2
 refine⟨fun z q P=>∃ (k:Nat) (u v:AV),z=(k:Int)∧q=n-k∧k≤n∧Bgn M P M.next u v k,⟨n,0,nilS,nilS,rfl,rfl,Nat.zero_le _,⟨by rw[hM2];exact Keep.new hw _,by rw[hM2];exact get_new _ _,Nat.le_refl _,.inl ⟨rfl,rfl⟩,.inl ⟨rfl,rfl⟩,fun c hc=>hc.elim,fun c hc=>hc.elim,fun c hc=>hc.elim⟩⟩,?_⟩
 rintro _ _ _ P ⟨k,u,v,rfl,rfl,hk,hB⟩
 refine cZi (fun hlt=>?_) (fun hge=>?_)
 ·have hlt:k<n:=Int.ofNat_lt.1 (of_decide_eq_true hlt)
  have hwP:=hB.keep.wf
  have hqP:=hwP _ _ hB.main
  have hMP:=hB.keep.nxt
  refine lZi fun M8 hM8=>?_
  have hM8:M8=⟨P.next+2,P.rows⟩:=hM8
  have hg8:∀ c,M8.get c=P.get c:=fun c=>by rw[hM8];rfl
  have hn8:M8.next=P.next+2:=by rw[hM8]
  have hw8:M8.WF:=by rw[hM8];exact (bump_keep2 hwP).wf
  have hm8:M8.get M.next=_:=(hg8 _).trans hB.main
  refine bZi (lZs (lZc ty25 rfl hm8 (o:=0) (v:=u) rfl)) ?_
  refine bZi (lZs (lZc ty25 rfl hm8 (o:=1) (v:=v) rfl)) ?_
  refine lZi fun M11 hM11=>?_
  have hM11:M11=M8.put P.next (.cells [i64 (-1)] true):=hM11
  have hg11:∀ c,c≠P.next→M11.get c=P.get c:=fun c hc=>by rw[hM11,Mem.get_put,if_neg hc,hg8]
  have hn11:M11.next=P.next+2:=by rw[hM11];exact hn8
  have hw11:M11.WF:=by rw[hM11];exact hw8.put (by omega) _
  have hu11:GrV M11 u (List.replicate k (i64 (-1))):=hB.xs.mono fun c r hc hr=>by rw[hg11 c (by have:=hB.xs.lt hwP c hc;omega)];exact hr
  obtain⟨u',N12,e1,e2,e3,e4,e5,e6⟩:=hu11.growA hw11 (b:=P.next) (v:=i64 (-1)) (by rw[hM11,Mem.get_put,if_pos rfl]) rfl (by rw[List.length_replicate];omega)
  refine bZi e1 ?_
  have hq12:N12.get M.next=some (.cells [u,v,nilS,.val (.bool false)] true):=by
   rw[e5 M.next (by omega) (fun hc=>(hB.xq _ hc).2 rfl),hg11 M.next (by omega)]
   exact hB.main
  refine⟨bZi (lZs (lZc ty25 rfl hq12 (o:=1) (v:=v) rfl)) rfl,?_⟩
  refine lZi fun M14 hM14=>?_
  have hM14:M14=N12.put (P.next+1) (.cells [i64 (-1)] true):=hM14
  have hg14:∀ c,c≠P.next+1→M14.get c=N12.get c:=fun c hc=>by rw[hM14,Mem.get_put,if_neg hc]
  have hn14:M14.next=N12.next:=by rw[hM14];rfl
  have hw14:M14.WF:=by rw[hM14];exact e3.put (by omega) _
  have hold:∀ c,c<P.next→¬ inBlk u c→M14.get c=P.get c:=fun c hc hn=>by
   rw[hg14 c (by omega),e5 c (by omega) hn,hg11 c (by omega)]
  have hv14:GrV M14 v (List.replicate k (i64 (-1))):=hB.ys.mono fun c r hc hr=>by rw[hold c (hB.ys.lt hwP c hc) (fun hu=>hB.xy c hu hc)];exact hr
  obtain⟨v',N15,f1,f2,f3,f4,f5,f6⟩:=hv14.growA hw14 (b:=P.next+1) (v:=i64 (-1)) (by rw[hM14,Mem.get_put,if_pos rfl]) rfl (by rw[List.length_replicate];omega)
  refine bZi f1 ?_
  have hq15:N15.get M.next=some (.cells [u,v,nilS,.val (.bool false)] true):=by
   rw[f5 M.next (by omega) (fun hc=>(hB.yq _ hc).2 rfl),hg14 M.next (by omega)]
   exact hq12
  have hu1:u'.one=true:=by rcases e2 with⟨rfl,_⟩|⟨b,h,_⟩ <;> first|rfl|(rw[h];rfl)
  have hv1:v'.one=true:=by rcases f2 with⟨rfl,_⟩|⟨b,h,_⟩ <;> first|rfl|(rw[h];rfl)
  refine bZi (sZs (st_cell ty25 rfl hu1 hq15 (o:=0) (by simp))) ?_
  have hq16:(N15.put M.next (.cells ([u,v,nilS,.val (.bool false)].set 0 u') true)).get M.next=some (.cells [u',v,nilS,.val (.bool false)] true):=by rw[Mem.get_put,if_pos rfl];rfl
  refine bZi (sZs (st_cell ty25 rfl hv1 hq16 (o:=1) (by simp))) ?_
  have hgl:∀ c,c≠M.next→((N15.put M.next (.cells ([u,v,nilS,.val (.bool false)].set 0 u') true)).put M.next (.cells ([u',v,nilS,.val (.bool false)].set 1 v') true)).get c=N15.get c:=fun c hc=>by rw[Mem.get_put,if_neg hc,Mem.get_put,if_neg hc]
  have hul:∀ c,inBlk u' c→c<N12.next:=fun c hc=>e2.lt e3 c hc
  refine⟨n-(k+1),by omega,k+1,u',v',iInc (by omega),rfl,hlt,⟨(f3.put (by omega) _).put (by show M.next<N15.next;omega) _,by show M.next≤N15.next;omega,fun c hc _=>?_⟩,?_,Nat.le_refl _,?_,?_,fun c hc=>?_,fun c hc=>?_,fun c hc hv=>?_⟩
  ·have h1:¬ inBlk u c:=fun hc'=>by have:=(hB.xq c hc').1;omega
   have h2:¬ inBlk v c:=fun hc'=>by have:=(hB.yq c hc').1;omega
   rw[hgl c (by omega),f5 c (by omega) h2,hold c (by omega) h1]
   exact hB.keep.old c hc (by simp)
  ·rw[Mem.get_put,if_pos rfl];rfl
  ·rw[List.replicate_succ']
   refine e2.mono fun c r hc hr=>?_
   have:=e6 c hc
   have:=hul c hc
   have hnv:¬ inBlk v c:=fun hv=>by have:=hB.ys.lt hwP c hv;omega
   have hne:c≠P.next+1:=by omega
   rw[hgl c (by omega),f5 c (by omega) hnv,hg14 c hne]
   exact hr
  ·rw[List.replicate_succ']
   refine f2.mono fun c r hc hr=>?_
   have:=f6 c hc
   rw[hgl c (by omega)]
   exact hr
  ·have:=e6 c hc
   omega
  ·have:=f6 c hc
   omega
  ·have:=f6 c hv
   have:=hul c hc
   omega
 ·have hge:k=n:=by
   have:¬ (k:Int)<n:=of_decide_eq_false hge
   omega
  subst hge
  exact⟨_,_,_,rfl,hB⟩
section
variable {M0:Mem} {g:Geo} {k n:Int} {A:Adr} {M:Mem} {S:Ps} {P:Int→Option (Option Dat)} {B:Int→Option Dat}
end
def F4(a0 a1 a2:AV)(M:Mem)(Q:AV→Mem→Prop):Prop:=∃ t u v w x:Int,a0=(.agg [t,u,v,w,x])∧zI .i64 a2 fun Z=>letP (M.new (.cells [t,u,v,w,x] true)) fun y=>bindO (eLd tb 23 (.ptr M.next 0) y) fun c0=>∃ z A B C D:Int,c0.1=(.agg [z,A,B,C,D])∧(CallA tb.P 9 [(.agg [z,A,B,C,D]),a1] y fun d0 n=>zB d0 fun e0=>condB (!e0) (CallA tb.P 10 [] n fun f0 g0=>zB f0 fun h0=>Q h0 g0) (bindO (eLd tb 23 (.ptr M.next 0) n) fun j0=>∃ E F G H I:Int,j0.1=(.agg [E,F,G,H,I])∧(CallA tb.P 19 [(.agg [E,F,G,H,I]),a1] n fun l0 k=>∃ (o:AV) (e:AV) (f:AV),l0=(.tup [o,e,f])∧(letP (fun (m0:Bool)=>condB (m0) (Q false k) (CallA tb.P 20 [e] k fun n0 g=>zI .i64 n0 fun J=>bindO (eNil f g) fun o0=>bindO (eFA tb 47 o0.1 0 g) fun r0=>zP r0.1 fun t0 u0=>bindO (eLd tb 25 (.ptr t0 u0) g) fun v0=>bindO (eLen tb false 25 v0.1 g) fun w0=>zI .i64 w0.1 fun x0=>condB (J != x0) (Q false g) (∃ p:Int→Nat→Mem→Prop,(∃ y0:Nat,p (0:Int) y0 g)∧∀ (_:Nat→Option AV) (j:Int) (K:Nat) (L:Mem),p j K L→(CallA tb.P 14 [Z,(6:Int)] L fun z0 h=>zI .i64 z0 fun A0=>condB (decide (j≤A0)) (∃ r:Int→Nat→Mem→Prop,(∃ B0:Nat,r (0:Int) B0 h)∧∀ (_:Nat→Option AV) (d:Int) (N:Nat) (l:Mem),r d N l→(condB (decide (d<J)) (bindO (eLd tb 3 (.ptr M.next 2) l) fun C0=>zI .i64 C0.1 fun D0=>CallA tb.P 16 [(.val (.int .u8 (IntKind.wrap .u8 (iAdd .i64 j d)))),D0] l fun E0 F0=>CallA tb.P 15 [e,d,E0] F0 fun G0 i=>zI .i64 G0 fun H0=>condB (H0 != (0:Int)) (Q false i) (bindO (eNil f i) fun I0=>bindO (eFA tb 47 I0.1 0 i) fun J0=>zP J0.1 fun K0 L0=>bindO (eLd tb 25 (.ptr K0 L0) i) fun N0=>bindO (eIA tb 25 N0.1 d i) fun O0=>zP O0.1 fun P0 R0=>bindO (eSt tb 3 (.ptr P0 R0) (iAdd .i64 j d) i) fun S0=>∃ O:Nat,O<N∧(r (iAdd .i64 d 1) O S0.2))) (letP (fun (T0:Bool) (R:Mem)=>condB (T0) (Q false R) (∃ S:Nat,S<K∧(p (iAdd .i64 j 1) S R))) fun T=>CallA tb.P 17 [e] l fun U0 U=>zI .i64 U0 fun V0=>condB (V0 != (0:Int)) (T true U) (CallA tb.P 21 [e] U fun W0 X0=>zB W0 fun Y0=>T Y0 X0)))) (bindO (eNil f h) fun Z0=>bindO (eFA tb 47 Z0.1 0 h) fun c1=>zP c1.1 fun d1 e1=>bindO (eLd tb 25 (.ptr d1 e1) h) fun f1=>bindO (eLd tb 3 (.ptr M.next 2) h) fun g1=>zI .i64 g1.1 fun h1=>CallA tb.P 18 [e,f1.1,h1] h fun j1 V=>zB j1 fun l1=>condB (!l1) (Q false V) (CallA tb.P 12 [o] V fun m1 c=>∃ (s:AV) (W:Int),m1=(.tup [s,W])∧(letP (fun (n1:Bool) (o1:Mem)=>Q n1 o1) fun m=>condB (W==(0:Int)) (bindO (eBin tb .neq 30 (.tmp 97) (.const (.pointer none)) s (.val (.pointer none)) c) fun r1=>zB r1.1 fun t1=>condB (t1) (bindO (eNil f c) fun u1=>bindO (eFA tb 47 u1.1 0 c) fun v1=>zP v1.1 fun w1 x1=>bindO (eLd tb 25 (.ptr w1 x1) c) fun y1=>bindO (eLd tb 3 (.ptr M.next 2) c) fun A1=>zI .i64 A1.1 fun B1=>CallA tb.P 18 [s,y1.1,B1] c fun C1 X=>zB C1 fun D1=>condB (D1) (CallA tb.P 10 [] X fun E1 F1=>zB E1 fun G1=>m G1 F1) (m false X)) (m false c)) (m false c)))))))) fun Y=>bindO (eBin tb .eql 28 (.tmp 27) (.const (.pointer none)) o (.val (.pointer none)) k) fun H1=>zB H1.1 fun I1=>condB (I1) (Y true) (bindO (eBin tb .eql 42 (.tmp 30) (.const (.pointer none)) f (.val (.pointer none)) k) fun J1=>zB J1.1 fun K1=>Y K1)))))
structure MD (N:Mem) (A:Adr) (q bu bw:Nat) (us ws:List Int) (x:AV) (b:Bool):Prop where
 main:N.get q=some (.cells [.sl bu 0 us.length us.length (some 1),.sl bw 0 ws.length ws.length (some 1),x,.val (.bool b)] true)
 us:N.get bu=some (.cells (us.map i64) true)
 ws:N.get bw=some (.cells (ws.map i64) true)
 ne:q≠bu∧q≠bw∧bu≠bw
 out:q∉A.all∧bu∉A.all∧bw∉A.all
section
variable {N:Mem} {A:Adr} {q bu bw:Nat} {us ws:List Int} {x:AV} {b:Bool}
end
theorem nil_eq42{p:Nat}{M:Mem}{xo yo:Operand}:eBin tb .eql 42 xo yo (.ptr p 0) (.val (.pointer none)) M=some (.val (.bool false),M):=eBin_some (by kernel_rfl)
section
variable {M0:Mem} {g:Geo} {k n:Int} {A:Adr} {M:Mem} {S:Ps} {P:Int→Option (Option Dat)} {B:Int→Option Dat}
end
section
variable {M0:Mem} {g:Geo} {k n:Int} {A:Adr} {M:Mem} {S:Ps} {P:Int→Option (Option Dat)} {B:Int→Option Dat}
theorem LF.base0{M1:Mem}(h:LF M1 g k n A M S P B)(hk:Keep M0 M1 []):LF M0 g k n A M S P B:=
 { h with ge:=fun c hc=>Nat.le_trans hk.nxt (h.ge c hc),nx:=Nat.le_trans hk.nxt h.nx,low:=fun c hc=>(h.low c (Nat.lt_of_lt_of_le hc hk.nxt)).trans (hk.old c hc (by simp)) }
end
theorem GrV.own{M:Mem}{x:AV}{l:List Int}(h:GrV M x (l.map i64))(h0:0<l.length):∃ b,x= .sl b 0 l.length l.length (some 1)∧M.get b=some (.cells (l.map i64) true):=by
 rcases h with⟨_,e⟩|⟨b,h1,h2,h3,h4⟩
 ·rw[List.map_eq_nil_iff] at e;rw[e] at h0;simp at h0
 ·rw[List.length_map] at h1
  exact⟨b,h1,h4⟩
theorem lost_few{g:Geo}{fs:List Flt}(h:(fs.length:Int)≤g.sp):(lostN (newPs g fs):Int)≤g.sp:=by
 have:=lostN_le (newPs g fs)
 have e:(newPs g fs).fs=fs:=rfl
 rw[e] at this
 omega
theorem few_of{g:Geo}{fs:List Flt}(h:fewF g fs=true):mayG g=true∧mayP g fs=true∧(fs.length:Int)≤g.sp:=by
 unfold fewF at h
 simp only[Bool.and_eq_true,decide_eq_true_eq] at h
 refine⟨?_,h.2.1,h.2.2⟩
 have:=h.2.1
 unfold mayP at this
 simp only[Bool.and_eq_true] at this
 exact this.1.1
theorem l_beginW(M:Mem)(hw:M.WF)(g:Geo)(x:AV)(fs:List Flt)(hx:FltsAt M x fs)(hfew:fewF g fs=true)(hfl:fs.length≤9223372036854775807):
 CallA tb.P 19 [geoA g,x] M fun y N=>∃ p A S q bu bw,y= .tup [.ptr p 0,.ptr A.f 0,.ptr q 0]∧LF M g 0 160 A N S NoP (fun _=>none)∧A.p=p∧S.fs=fs∧
  MD N A q bu bw (List.replicate (logG g).toNat (-1)) (List.replicate (logG g).toNat (-1)) nilS false∧(∀ c∈[q,bu,bw],c∈A.ext∧M.next≤c)∧S.x=(newPs g fs).x:=by
 obtain⟨hg,hP,hle⟩:=few_of hfew
 obtain⟨hlg,hlg2⟩:=logG_le hg
 have hm:=mayG_iff.1 hg
 have hlg3:(g.bl-g.sp-3)*g.pg≤20*8:=Int.mul_le_mul (by omega) (by omega) (by omega) (by omega)
 refine F19_ok ?_
 unfold F19
 refine⟨_,_,_,_,_,rfl,?_⟩
 refine lZi fun M6 hM6=>?_
 have hM6:M6=M.new (.cells (geoC g) true):=hM6
 have hk6:Keep M M6 []:=by rw[hM6];exact Keep.new hw _
 have hbox:M6.get M.next=some (.cells (geoC g) true):=by rw[hM6];exact get_new _ _
 have hlt6:M.next<M6.next:=hk6.wf _ _ hbox
 have hx6:=hx.keep0 hw hk6
 clear hM6
 obtain⟨_,_,_,_,_,l5⟩:=geo_ld hbox
 refine bZi (lZs l5) ?_
 refine⟨_,_,_,_,_,rfl,?_⟩
 refine (c_new M6 hk6.wf g x fs hx6 hfl).mono ?_
 rintro y13 M14 ⟨hk14,h14⟩
 rcases h14 with⟨hno,_⟩|⟨_,p,fsA,bb,bs,rfl,hc,hb,hf,_⟩
 ·rw[hP] at hno;cases hno
 refine bZi nil_eq28 ?_
 simp only[zZb,cZf]
 have hL:=new_left hg (lost_few hle) hk14 hc hb hf
 refine (ls_mountW hL (by decide) (T:=[]) (fun c hc=>by simp at hc)).mono ?_
 rintro _ M18 ⟨A,S,rfl,_,hF,hAp,_,hfs,_,_,hSx,_⟩
 refine⟨_,_,rfl,?_⟩
 refine lZi fun K24 hK24=>?_
 refine cZi (fun h=>absurd h (by decide)) fun _=>?_
 refine bZi nil_eq22 ?_
 simp only[zZb]
 rw[hK24]
 dsimp only
 simp only[cZf]
 refine bZi (lZs (hF.box hbox hlt6).2) ?_
 refine⟨_,_,_,_,_,rfl,?_⟩
 refine (l_logical13 M18 hF.wf g hg).mono ?_
 rintro _ M32 ⟨rfl,hk32⟩
 simp only[i64,zZi]
 have hF32:=hF.keep hk32
 obtain⟨L,hL⟩:∃ L:Nat,logG g=(L:Int):=⟨(logG g).toNat,by omega⟩
 rw[hL,Int.toNat_natCast]
 refine (l_begun M32 hF32.wf L (by omega)).mono ?_
 rintro _ N ⟨q,u,v,rfl,hB⟩
 have e1:List.replicate L (i64 (-1))=(List.replicate L (-1:Int)).map i64:=by rw[List.map_replicate]
 have hxs:=hB.xs
 have hys:=hB.ys
 rw[e1] at hxs hys
 have h0:0<(List.replicate L (-1:Int)).length:=by rw[List.length_replicate];omega
 obtain⟨bu,rfl,gu⟩:=hxs.own h0
 obtain⟨bw,rfl,gw⟩:=hys.own h0
 have iu:inBlk (.sl bu 0 (List.replicate L (-1:Int)).length (List.replicate L (-1:Int)).length (some 1)) bu:=⟨by omega,rfl⟩
 have iw:inBlk (.sl bw 0 (List.replicate L (-1:Int)).length (List.replicate L (-1:Int)).length (some 1)) bw:=⟨by omega,rfl⟩
 obtain⟨u1,u2⟩:=hB.xq bu iu
 obtain⟨w1,w2⟩:=hB.yq bw iw
 have huw:bu≠bw:=fun e=>hB.xy bu iu (by rw[e];exact iw)
 have hall:=hF32.lt
 have hlt:∀ c r,N.get c=some r→c<N.next:=fun c r h=>hB.keep.wf c r h
 have hT:∀ c∈[q,bu,bw],M32.next≤c∧c<N.next:=fun c hc=>by
  simp only[List.mem_cons,List.not_mem_nil,or_false] at hc
  rcases hc with rfl|rfl|rfl
  ·exact⟨hB.ge,hlt _ _ hB.main⟩
  ·exact⟨u1,hlt _ _ gu⟩
  ·exact⟨w1,hlt _ _ gw⟩
 have hno:∀ c,M32.next≤c→c∉A.all:=fun c hc hm=>by have:=hall c hm;omega
 refine⟨p,{ A with ext:=[q,bu,bw]++A.ext },S,q,bu,bw,rfl,(hF32.aside hB.keep hT).base0 hk6,hAp,hfs,⟨hB.main,gu,gw,⟨fun e=>u2 e.symm,fun e=>w2 e.symm,huw⟩,hno _ hB.ge,hno _ u1,hno _ w1⟩,fun c hc=>⟨List.mem_append.2 (.inl hc),?_⟩,hSx⟩
 have:=(hT c hc).1
 have:=hF32.nx
 have:=hk6.nxt
 omega
theorem r_extreme(M:Mem)(x z:AV)(lt:Int→Int→Bool)(s:Int)(hs:∀ a b:Int,0≤a∧a≤1000000000→0≤b∧b≤1000000000→decide (iMul .i64 s a<iMul .i64 s b)=lt a b)
 (ws:List Int) (gd:List Bool) (hx:VsAt M x (ws.map i64)) (hz:VsAt M z (gd.map bv)) (hl:gd.length=ws.length) (hb:ws.length≤10000) (hws:∀ i,0≤ws.getD i 0∧ws.getD i 0≤1000000000):
 CallA tb.P 127 [x,z,i64 s] M fun y N=>y=i64 (bst lt ws gd ws.length)∧N=M:=by
 refine F127_ok ?_
 unfold F127
 simp only[i64,zZi]
 refine⟨fun a i n P=>∃ j:Nat,a=bst lt ws gd j∧i=j∧n=ws.length-j∧j≤ws.length∧P=M,⟨ws.length,0,rfl,rfl,rfl,Nat.zero_le _,rfl⟩,?_⟩
 rintro _ a i n P ⟨j,rfl,rfl,rfl,hj,rfl⟩
 obtain⟨b1,b2⟩:=bst_bnd lt ws gd j
 refine lZi fun K13 hK13=>?_
 refine bZi (ints_len hx) ?_
 simp only[zZi]
 refine cZi (fun hlt=>?_) (fun hge=>?_)
 ·have hlt:j<ws.length:=Int.ofNat_lt.1 (of_decide_eq_true hlt)
  refine bZi (bools_len hz) ?_
  simp only[zZi]
  rw[decide_eq_true (by omega:(j:Int)<(gd.length:Int)),hK13]
  simp only[cZt]
  clear hK13
  refine lZi fun K32 hK32=>?_
  refine lZi fun K30 hK30=>?_
  have tak:bst lt ws gd (j+1)=(j:Int)→K32 j:=fun e=>by
   rw[hK32]
   exact⟨ws.length-(j+1),by omega,j+1,e.symm,iInc (by omega),rfl,hlt,by trivial⟩
  have not:bst lt ws gd (j+1)=bst lt ws gd j→K32 (bst lt ws gd j):=fun e=>by
   rw[hK32]
   exact⟨ws.length-(j+1),by omega,j+1,e.symm,iInc (by omega),rfl,hlt,by trivial⟩
  have tak:bst lt ws gd (j+1)=(j:Int)→K30 true:=fun e=>by rw[hK30];exact tak e
  have not:bst lt ws gd (j+1)=bst lt ws gd j→K30 false:=fun e=>by rw[hK30];exact not e
  clear hK32 hK30
  obtain⟨b,o,h1,_,h3⟩:=bool_one hz (i:=j) (by omega)
  refine bZi (h1 P) ?_
  simp only[zZp]
  refine bZi h3 ?_
  simp only[zZb]
  cases hg:gd.getD j false with
  | false=>
    simp only[cZf]
    exact not (by rw[bst,if_neg (by rw[hg];simp)])
  | true=>
    simp only[cZt]
    refine cZi (fun hneg=>?_) (fun hpos=>?_)
    ·have hneg:bst lt ws gd j<0:=of_decide_eq_true hneg
     exact tak (by rw[bst,if_pos hg,if_pos hneg])
    ·have hpos:¬ bst lt ws gd j<0:=of_decide_eq_false hpos
     obtain⟨k,hk⟩:∃ k:Nat,bst lt ws gd j=k:=⟨(bst lt ws gd j).toNat,by omega⟩
     obtain⟨c1,o1,f1,_,f3⟩:=int_one hx hlt
     obtain⟨c2,o2,g1,_,g3⟩:=int_one hx (i:=k) (by omega)
     refine bZi (f1 P) ?_
     simp only[zZp]
     rw[hk]
     refine bZi (g1 P) ?_
     simp only[zZp]
     refine bZi f3 ?_
     simp only[zZi]
     refine bZi g3 ?_
     simp only[zZi]
     rw[hs _ _ (hws _) (hws _)]
     have hstep:bst lt ws gd (j+1)=if lt (ws.getD j 0) (ws.getD k 0)=true then (j:Int) else (k:Int):=by
      rw[bst,if_pos hg,if_neg hpos,hk,Int.toNat_natCast]
     cases hlt':lt (ws.getD j 0) (ws.getD k 0) with
     | true=>exact tak (by rw[hstep,if_pos hlt'])
     | false=>exact not (by rw[hstep,if_neg (by rw[hlt'];simp),hk])
 ·have hge:j=ws.length:=by have:¬ (j:Int)<ws.length:=of_decide_eq_false hge
                           omega
  subst hge
  rw[hK13]
  simp only[cZf]
  exact⟨by trivial,by trivial⟩
theorem r_spread(M:Mem)(x z:AV)(ws:List Int)(gd:List Bool)(hx:VsAt M x (ws.map i64))(hz:VsAt M z (gd.map bv))(hl:gd.length=ws.length)(hb:ws.length≤10000)(hws:∀ i,0≤ws.getD i 0∧ws.getD i 0≤1000000000):
 CallA tb.P 61 [x,z] M fun y N=>y=i64 (sprL ws gd)∧N=M:=by
 refine F61_ok ?_
 unfold F61
 have least:CallA tb.P 95 [x,z] M fun y N=>y=i64 (bst (fun a b=>decide (a<b)) ws gd ws.length)∧N=M:=by
  refine F95_ok ?_
  unfold F95
  refine (r_extreme M x z (fun a b=>decide (a<b)) 1 (fun a b ha hb=>?_) ws gd hx hz hl hb hws).mono ?_
  ·have e:∀ c:Int,0≤c∧c≤1000000000→iMul .i64 1 c=c:=fun c hc=>by rw[iMul,Int.one_mul,wrap_i64' (by omega) (by omega)]
   rw[e _ ha,e _ hb]
  rintro y N ⟨rfl,rfl⟩
  simp only[i64,zZi]
  exact⟨by trivial,by trivial⟩
 have most:CallA tb.P 96 [x,z] M fun y N=>y=i64 (bst (fun a b=>decide (a>b)) ws gd ws.length)∧N=M:=by
  refine F96_ok ?_
  unfold F96
  refine (r_extreme M x z (fun a b=>decide (a>b)) (-1) (fun a b ha hb=>?_) ws gd hx hz hl hb hws).mono ?_
  ·have e:∀ c:Int,0≤c∧c≤1000000000→iMul .i64 (-1) c= -c:=fun c hc=>by rw[iMul,Int.neg_one_mul,wrap_i64' (by omega) (by omega)]
   rw[e _ ha,e _ hb]
   by_cases q:a>b
   ·rw[decide_eq_true q,decide_eq_true (by omega)]
   ·rw[decide_eq_false q,decide_eq_false (by omega)]
  rintro y N ⟨rfl,rfl⟩
  simp only[i64,zZi]
  exact⟨by trivial,by trivial⟩
 refine least.mono ?_
 rintro y N ⟨rfl,rfl⟩
 simp only[i64,zZi]
 refine most.mono ?_
 rintro y N' ⟨rfl,rfl⟩
 simp only[i64,zZi]
 clear least most
 have n1:=bst_neg (fun a b=>decide (a<b)) ws gd ws.length
 have n2:=bst_neg (fun a b=>decide (a>b)) ws gd ws.length
 have b1:=bst_bnd (fun a b=>decide (a<b)) ws gd ws.length
 have b2:=bst_bnd (fun a b=>decide (a>b)) ws gd ws.length
 unfold sprL
 have n3:=n1.trans n2.symm
 generalize bst (fun a b=>decide (a<b)) ws gd ws.length=u at*
 generalize bst (fun a b=>decide (a>b)) ws gd ws.length=v at*
 refine cZi (fun h=>?_) (fun h=>?_)
 ·exact⟨by rw[if_pos (of_decide_eq_true h)],by trivial⟩
 ·have h:¬ u<0:=of_decide_eq_false h
  have h':¬ v<0:=fun hv=>h (n3.2 hv)
  obtain⟨i,rfl⟩:∃ i:Nat,u=i:=⟨u.toNat,by omega⟩
  obtain⟨j,rfl⟩:∃ j:Nat,v=j:=⟨v.toNat,by omega⟩
  obtain⟨c1,o1,f1,_,f3⟩:=int_one hx (i:=i) (by omega)
  obtain⟨c2,o2,g1,_,g3⟩:=int_one hx (i:=j) (by omega)
  refine bZi (g1 N') ?_
  simp only[zZp]
  refine bZi (f1 N') ?_
  simp only[zZp]
  refine bZi g3 ?_
  simp only[zZi]
  refine bZi f3 ?_
  simp only[zZi]
  exact⟨by rw[if_neg h,Int.toNat_natCast,Int.toNat_natCast],by trivial⟩
def Even(S:Ps):Prop:=∀ b c,b<nB S→c<nB S→xWear S b≤xWear S c+S.g.tr
structure Wr (S S':Ps):Prop where
 g:S'.g=S.g
 fs:S'.fs=S.fs
 len:S'.x.length=S.x.length
theorem Wr.refl(S:Ps):Wr S S:=⟨rfl,rfl,rfl⟩
theorem Wr.trans{S S' S'':Ps}(h:Wr S S')(k:Wr S' S''):Wr S S'':=⟨k.g.trans h.g,k.fs.trans h.fs,k.len.trans h.len⟩
theorem lost_nil{S:Ps}(h:S.fs=[])(b:Nat):xLost S b=false:=by
 unfold xLost
 rw[h]
 have h1:badF [] b=false:=rfl
 rw[h1,Bool.false_or]
 split
 ·rfl
 ·rfl
theorem lostN_nil{S:Ps}(h:S.fs=[]):lostN S=0:=by
 have:=lostN_le S
 rw[h] at this
 exact Nat.le_zero.1 this
theorem wear_wipe'{S:Ps}{b:Nat}(hb:b<S.x.length)(c:Nat):xWear (wipeX S b) c=xWear S c+(if c=b then 1 else 0):=by
 rw[wear_wipe hb c]
 by_cases h:c=b
 ·subst h;simp
 ·rw[if_neg h,if_neg h];omega
theorem wr_push(S:Ps)(b:Nat)(t:Tg)(d:Dat):Wr S (pushX S b t d):=⟨rfl,rfl,by unfold pushX;simp⟩
theorem wr_wipe(S:Ps)(b:Nat):Wr S (wipeX S b):=⟨rfl,rfl,by unfold wipeX;simp⟩
theorem worn_nil{S:Ps}(h:S.fs=[])(hg:0≤S.g.sp):wornX S=(S,0):=by
 unfold wornX
 rw[lostN_nil h,if_pos (by simpa using hg)]
theorem clr_wear{b:Nat}{live:Nat→Bool}:∀ (k i:Nat) (to:Int) (S:Ps),S.fs=[]→0≤S.g.sp→b<S.x.length→(clrL b live k i to S).2=0→Wr S (clrL b live k i to S).1∧∀ c,xWear (clrL b live k i to S).1 c=xWear S c+(if c=b then 1 else 0)
 | 0,i,to,S,hf,hg,hb,h=>by
   unfold clrL eraseX
   rw[lost_nil hf,if_neg (by simp),worn_nil (S:=wipeX S b) hf hg]
   exact⟨wr_wipe S b,fun c=>wear_wipe' hb c⟩
 | k+1,i,to,S,hf,hg,hb,h=>by
   unfold clrL at h ⊢
   split at h
   ·rename_i v h1 h2
    rw[h1,h2] at*
    simp only at h ⊢
    generalize (if to<0 then xFresh S else if (xLost S to.toNat||xUsed S to.toNat==nG S)=true then xFresh S else to)=to' at h ⊢
    split at h
    ·cases h
    ·rename_i ht
     rw[if_neg ht]
     have hw:progX S to'.toNat v.t v.d=(pushX S to'.toNat v.t v.d,0):=worn_nil (S:=pushX S to'.toNat v.t v.d) hf hg
     rw[hw] at h ⊢
     simp only[ne_eq,not_true,if_false] at h ⊢
     have hr:=clr_wear k (i+1) to' (pushX S to'.toNat v.t v.d) hf hg (by rw[(wr_push S to'.toNat v.t v.d).len];exact hb) h
     refine⟨(wr_push _ _ _ _).trans hr.1,fun c=>?_⟩
     rw[hr.2 c,wear_push]
   ·rename_i hx
    have hr:=clr_wear k (i+1) to S hf hg hb h
    exact hr
theorem clear_wear{S:Ps}{b:Nat}(hf:S.fs=[])(hg:0≤S.g.sp)(hb:b<S.x.length)(h:(clearX S b).2=0):Wr S (clearX S b).1∧∀ c,xWear (clearX S b).1 c=xWear S c+(if c=b then 1 else 0):=
 clr_wear _ _ _ _ hf hg hb h
theorem best_min{ws:Nat→Int}{gd:Nat→Bool}:∀ {n:Nat},(∀ k,k<n→gd k=true)→0<n→0≤best1 (fun a b=>decide (a<b)) ws gd n∧(best1 (fun a b=>decide (a<b)) ws gd n).toNat<n∧∀ k,k<n→ws (best1 (fun a b=>decide (a<b)) ws gd n).toNat≤ws k
 | 0,_,h=>by omega
 | n+1,hg,_=>by
   by_cases h0:n=0
   ·subst h0
    unfold best1
    have:best1 (fun a b=>decide (a<b)) ws gd 0= -1:=rfl
    rw[this,hg 0 (by omega)]
    simp
   ·obtain⟨h1,h2,h3⟩:=best_min (ws:=ws) (gd:=gd) (n:=n) (fun k hk=>hg k (by omega)) (by omega)
    unfold best1
    rw[hg n (by omega)]
    generalize best1 (fun a b=>decide (a<b)) ws gd n=B at h1 h2 h3 ⊢
    simp only[Bool.true_and,Bool.or_eq_true,decide_eq_true_eq]
    by_cases h4:ws n<ws B.toNat
    ·rw[if_pos (.inr h4)]
     refine⟨by omega,by omega,fun k hk=>?_⟩
     by_cases e:k=n
     ·subst e;simp
     ·have:=h3 k (by omega)
      simp only[Int.toNat_natCast]
      omega
    ·rw[if_neg (by omega)]
     refine⟨h1,by omega,fun k hk=>?_⟩
     by_cases e:k=n
     ·subst e;omega
     ·exact h3 k (by omega)
theorem best_max{ws:Nat→Int}{gd:Nat→Bool}:∀ {n:Nat},(∀ k,k<n→gd k=true)→0<n→0≤best1 (fun a b=>decide (a>b)) ws gd n∧(best1 (fun a b=>decide (a>b)) ws gd n).toNat<n∧∀ k,k<n→ws k≤ws (best1 (fun a b=>decide (a>b)) ws gd n).toNat
 | 0,_,h=>by omega
 | n+1,hg,_=>by
   by_cases h0:n=0
   ·subst h0
    unfold best1
    have:best1 (fun a b=>decide (a>b)) ws gd 0= -1:=rfl
    rw[this,hg 0 (by omega)]
    simp
   ·obtain⟨h1,h2,h3⟩:=best_max (ws:=ws) (gd:=gd) (n:=n) (fun k hk=>hg k (by omega)) (by omega)
    unfold best1
    rw[hg n (by omega)]
    generalize best1 (fun a b=>decide (a>b)) ws gd n=B at h1 h2 h3 ⊢
    simp only[Bool.true_and,Bool.or_eq_true,decide_eq_true_eq]
    by_cases h4:ws n>ws B.toNat
    ·rw[if_pos (.inr h4)]
     refine⟨by omega,by omega,fun k hk=>?_⟩
     by_cases e:k=n
     ·subst e;simp
     ·have:=h3 k (by omega)
      simp only[Int.toNat_natCast]
      omega
    ·rw[if_neg (by omega)]
     refine⟨h1,by omega,fun k hk=>?_⟩
     by_cases e:k=n
     ·subst e;omega
     ·exact h3 k (by omega)
theorem spread_is{S:Ps}(hf:S.fs=[])(hn:0<nB S):∃ a b,a<nB S∧b<nB S∧(best1 (fun a b=>decide (a<b)) (xWear S) (xGood S) (nB S)).toNat=a∧(∀ k,k<nB S→xWear S a≤xWear S k∧xWear S k≤xWear S b)∧spreadX S=xWear S b-xWear S a:=by
 have hg:∀ k,k<nB S→xGood S k=true:=fun k _=>by unfold xGood;rw[lost_nil hf];rfl
 obtain⟨a1,a2,a3⟩:=best_min (ws:=xWear S) hg hn
 obtain⟨b1,b2,b3⟩:=best_max (ws:=xWear S) hg hn
 refine⟨_,_,a2,b2,rfl,fun k hk=>⟨a3 k hk,b3 k hk⟩,?_⟩
 unfold spreadX
 simp only
 rw[if_neg (by omega)]
theorem levL_eq(k:Nat)(S:Ps):levL (k+1) S=if spreadX S>S.g.tr then (if (clearX S (best1 (fun a b=>decide (a<b)) (xWear S) (xGood S) (nB S)).toNat).2≠0 then clearX S (best1 (fun a b=>decide (a<b)) (xWear S) (xGood S) (nB S)).toNat else levL k (clearX S (best1 (fun a b=>decide (a<b)) (xWear S) (xGood S) (nB S)).toNat).1) else (S,0):=by
 conv=>lhs;unfold levL
theorem lev_even:∀ (k:Nat) (S:Ps) (m:Int),S.fs=[]→0≤S.g.sp→1≤S.g.tr→S.x.length=nB S→0<nB S→(∀ b,b<nB S→m≤xWear S b∧xWear S b≤m+S.g.tr+1)→cnt (nB S) (fun b=>decide (xWear S b=m))≤k→(levL k S).2=0→Wr S (levL k S).1∧Even (levL k S).1
 | 0,S,m,hf,hg,ht,hl,hn,hb,hc,h=>by
   refine⟨Wr.refl S,fun b c hB hC=>?_⟩
   have h1:=hb b hB
   have h2:=hb c hC
   have h3:xWear S c≠m:=fun e=>by
    have:=cnt_imp (n:=nB S) (is:=fun q=>decide (q=c)) (js:=fun b=>decide (xWear S b=m)) fun q _ hq=>by
     have:q=c:=of_decide_eq_true hq
     subst this
     exact decide_eq_true e
    have h4:0<cnt (nB S) (fun q=>decide (q=c)):=by
     have:=cnt_upd (n:=nB S) (b:=c) (is:=fun _=>false) (js:=fun q=>decide (q=c)) hC fun q hq=>by simp[hq]
     simp only[decide_true,if_true,Bool.false_eq_true,if_false] at this
     omega
    omega
   show xWear S b≤xWear S c+S.g.tr
   omega
 | k+1,S,m,hf,hg,ht,hl,hn,hb,hc,h=>by
   obtain⟨a,b,ha,hB,ea,hab,es⟩:=spread_is hf hn
   rw[levL_eq] at h ⊢
   rw[ea] at h ⊢
   by_cases hs:spreadX S>S.g.tr
   ·rw[if_pos hs] at h ⊢
    by_cases hz:(clearX S a).2≠0
    ·rw[if_pos hz] at h;exact absurd h hz
    ·rw[if_neg hz] at h ⊢
     have hz:(clearX S a).2=0:=Decidable.byContradiction hz
     obtain⟨hw,hx⟩:=clear_wear hf hg (by omega:a<S.x.length) hz
     have em:xWear S a=m:=by
      have:=hb a ha
      have:=hb b hB
      omega
     have hnb:nB (clearX S a).1=nB S:=by unfold nB;rw[hw.g]
     have hr:=lev_even k (clearX S a).1 m (by rw[hw.fs];exact hf) (by rw[hw.g];exact hg) (by rw[hw.g];exact ht) (by rw[hw.len,hnb];exact hl) (by rw[hnb];exact hn) (fun c hC=>?_) ?_ h
     ·exact⟨hw.trans hr.1,hr.2⟩
     ·rw[hnb] at hC
      rw[hx c,hw.g]
      have:=hb c hC
      by_cases e:c=a
      ·rw[if_pos e,e,em];omega
      ·rw[if_neg e];omega
     ·rw[hnb]
      have:=cnt_upd (n:=nB S) (b:=a) (is:=fun b=>decide (xWear S b=m)) (js:=fun b=>decide (xWear (clearX S a).1 b=m)) ha fun c hC=>by
       rw[hx c,if_neg hC,Int.add_zero]
      have e1:decide (xWear S a=m)=true:=decide_eq_true em
      have e2:decide (xWear (clearX S a).1 a=m)=false:=by rw[hx a,if_pos rfl,em];exact decide_eq_false (by omega)
      rw[e1,e2] at this
      simp only[if_true,Bool.false_eq_true,if_false] at this
      omega
   ·rw[if_neg hs]
    refine⟨Wr.refl S,fun c c' hC hC'=>?_⟩
    have h1:=hab c hC
    have h2:=hab c' hC'
    show xWear S c≤xWear S c'+S.g.tr
    omega
theorem pick1_lt{lv:Nat→Nat}{ws:Nat→Int}{may:Nat→Bool}:∀ (n:Nat),pick1 lv ws may n<n∨n=0
 | 0=> .inr rfl
 | n+1=>by
   left
   unfold pick1
   split
   ·omega
   ·rcases pick1_lt (lv:=lv) (ws:=ws) (may:=may) n with h|h
    ·omega
    ·subst h
     have:pick1 lv ws may 0= -1:=rfl
     omega
structure Plain0 (S:Ps):Prop where
 fs:S.fs=[]
 sp:0≤S.g.sp
 tr:1≤S.g.tr
 len:S.x.length=nB S
 pos:0<nB S
 even:Even S
theorem Wr.nB{S S':Ps}(h:Wr S S'):nB S'=nB S:=by unfold Go.Proofs.YtlogedcoiogagaaGreat.nB;rw[h.g]
theorem Plain0.of{S S':Ps}(h:Plain0 S)(hw:Wr S S')(he:Even S'):Plain0 S':=
 ⟨by rw[hw.fs];exact h.fs,by rw[hw.g];exact h.sp,by rw[hw.g];exact h.tr,by rw[hw.len,hw.nB];exact h.len,by rw[hw.nB];exact h.pos,he⟩
theorem Plain0.collect{S:Ps}(h:Plain0 S)(hc:(collectX S).2=0):Wr S (collectX S).1∧Even (collectX S).1:=by
 unfold collectX at hc ⊢
 by_cases h1:victim S<0
 ·rw[if_pos h1] at hc;cases hc
 rw[if_neg h1] at hc ⊢
 by_cases h2:xLives S (victim S).toNat=nG S
 ·rw[if_pos h2] at hc;cases hc
 rw[if_neg h2] at hc ⊢
 simp only at hc ⊢
 by_cases h3:(clearX S (victim S).toNat).2≠0
 ·rw[if_pos h3] at hc;exact absurd hc h3
 rw[if_neg h3] at hc ⊢
 have h3:(clearX S (victim S).toNat).2=0:=Decidable.byContradiction h3
 have hb:(victim S).toNat<nB S:=by
  have h4:=pick1_lt (lv:=xLives S) (ws:=xWear S) (may:=xFull S) (nB S)
  have e:pick1 (xLives S) (xWear S) (xFull S) (nB S)=victim S:=rfl
  rw[e] at h4
  have:=h.pos
  omega
 obtain⟨hw,hx⟩:=clear_wear h.fs h.sp (by rw[h.len];exact hb) h3
 obtain⟨a,b,ha,hB,_,hab,_⟩:=spread_is h.fs h.pos
 have h':Wr S (clearX S (victim S).toNat).1:=hw
 have hr:=lev_even (nB S) (clearX S (victim S).toNat).1 (xWear S a) (by rw[hw.fs];exact h.fs) (by rw[hw.g];exact h.sp) (by rw[hw.g];exact h.tr) (by rw[hw.len,hw.nB];exact h.len) (by rw[hw.nB];exact h.pos) (fun c hC=>?_) (by rw[hw.nB];exact cnt_le _ _) (by unfold levelX at hc;rw[hw.nB] at hc;exact hc)
 ·have e:levelX (clearX S (victim S).toNat).1=levL (nB S) (clearX S (victim S).toNat).1:=by unfold levelX;rw[hw.nB]
  rw[e]
  exact⟨hw.trans hr.1,hr.2⟩
 ·rw[hw.nB] at hC
  rw[hx c,hw.g]
  have h1:=(hab c hC).1
  have h2:=h.even c a hC ha
  split <;> omega
theorem Plain0.plc:∀ (k:Nat) {S:Ps},Plain0 S→(plcL k S).2.2=0→Wr S (plcL k S).1∧Even (plcL k S).1
 | 0,S,h,hc=>by unfold plcL at hc;cases hc
 | k+1,S,h,hc=>by
   unfold plcL at hc ⊢
   simp only at hc ⊢
   generalize (if (decide (first1 (xOpen S) (nB S)<0)&&decide ((freeN S:Int)>target S))=true then xFresh S else first1 (xOpen S) (nB S))=o at hc ⊢
   by_cases h1:o≥0
   ·rw[if_pos h1]
    exact⟨Wr.refl S,h.even⟩
   rw[if_neg h1] at hc ⊢
   by_cases h2:(collectX S).2≠0
   ·rw[if_pos h2] at hc;exact absurd hc h2
   rw[if_neg h2] at hc ⊢
   obtain⟨hw,he⟩:=h.collect (Decidable.byContradiction h2)
   have hr:=Plain0.plc k (h.of hw he) hc
   exact⟨hw.trans hr.1,hr.2⟩
theorem Plain0.put{S:Ps}(h:Plain0 S){t:Tg}{d:Dat}(hc:(putX S t d).2=0):Wr S (putX S t d).1∧Even (putX S t d).1:=by
 unfold putX at hc ⊢
 simp only at hc ⊢
 by_cases h1:(placeX S).2.2≠0
 ·rw[if_pos h1] at hc;exact absurd hc h1
 rw[if_neg h1] at hc ⊢
 obtain⟨hw,he⟩:=Plain0.plc (nB S*nG S) h (Decidable.byContradiction h1)
 have hp:=h.of hw he
 have e:(plcL (nB S*nG S) S).1=(placeX S).1:=rfl
 rw[e] at hw he hp
 have hpr:∀ (b:Nat) (t:Tg),progX (placeX S).1 b t d=(pushX (placeX S).1 b t d,0):=fun b t=>worn_nil (S:=pushX (placeX S).1 b t d) hp.fs hp.sp
 rw[hpr]
 refine⟨hw.trans (wr_push _ _ _ _),fun b c hb hC=>?_⟩
 simp only[wear_push]
 exact he b c hb hC
theorem Plain0.pts{ac:Nat→Option (Tg×Dat)}:∀ (k n:Nat) {S:Ps},Plain0 S→(ptsL ac k n S).2=0→Wr S (ptsL ac k n S).1∧Even (ptsL ac k n S).1
 | 0,n,S,h,hc=>⟨Wr.refl S,h.even⟩
 | k+1,n,S,h,hc=>by
   unfold ptsL at hc ⊢
   cases ha:ac n with
   | none=>
     rw[ha] at hc
     exact Plain0.pts k (n+1) h hc
   | some q=>
     obtain⟨t,d⟩:=q
     rw[ha] at hc
     simp only at hc ⊢
     by_cases h2:(putX S t d).2≠0
     ·rw[if_pos h2] at hc;exact absurd hc h2
     rw[if_neg h2] at hc ⊢
     obtain⟨hw,he⟩:=h.put (Decidable.byContradiction h2)
     have hr:=Plain0.pts k (n+1) (h.of hw he) hc
     exact⟨hw.trans hr.1,hr.2⟩
theorem Plain0.flush{S:Ps}(h:Plain0 S){ac:Nat→Option (Tg×Dat)}(hc:(flushX S ac).2=0):Wr S (flushX S ac).1∧Even (flushX S ac).1:=by
 unfold flushX at hc ⊢
 have hb:Plain0 (beginX S):=⟨h.fs,h.sp,h.tr,h.len,h.pos,h.even⟩
 by_cases h1:(putsX (beginX S) ac).2≠0
 ·rw[if_pos h1] at hc;exact absurd hc h1
 rw[if_neg h1] at hc ⊢
 have h1:(putsX (beginX S) ac).2=0:=Decidable.byContradiction h1
 obtain⟨hw,he⟩:Wr (beginX S) (putsX (beginX S) ac).1∧Even (putsX (beginX S) ac).1:=by
  unfold putsX at h1 ⊢
  by_cases h2:(ptsL ac (nB (beginX S)*nG (beginX S)) 0 (beginX S)).2≠0
  ·rw[if_pos h2] at h1;exact absurd h1 h2
  rw[if_neg h2] at h1 ⊢
  obtain⟨hw,he⟩:=Plain0.pts _ 0 hb (Decidable.byContradiction h2)
  have hr:=(hb.of hw he).put h1
  exact⟨hw.trans hr.1,hr.2⟩
 have hp:=hb.of hw he
 have hs:spreadX { (putsX (beginX S) ac).1 with now:=0 }≤({ (putsX (beginX S) ac).1 with now:=0 }:Ps).g.tr:=by
  obtain⟨a,b,ha,hB,_,_,es⟩:=spread_is (S:={ (putsX (beginX S) ac).1 with now:=0 }) hp.fs hp.pos
  rw[es]
  have:=hp.even b a hB ha
  have e1:∀ c,xWear { (putsX (beginX S) ac).1 with now:=0 } c=xWear (putsX (beginX S) ac).1 c:=fun c=>rfl
  rw[e1,e1]
  show _≤(putsX (beginX S) ac).1.g.tr
  omega
 have hl:levelX { (putsX (beginX S) ac).1 with now:=0 }=({ (putsX (beginX S) ac).1 with now:=0 },0):=by
  unfold levelX
  cases hk:nB { (putsX (beginX S) ac).1 with now:=0 } with
  | zero=>rfl
  | succ k=>rw[levL_eq,if_neg (by omega)]
 rw[hl]
 exact⟨⟨hw.g,hw.fs,hw.len⟩,he⟩
def F5(a0 a1:AV)(M:Mem)(Q:AV→Mem→Prop):Prop:=∃ w x y z A:Int,a0=(.agg [w,x,y,z,A])∧letP (M.new (.cells [w,x,y,z,A] true)) fun g=>letP (fun (u0:Bool) (l:Mem)=>condB (u0) (CallA tb.P 10 [] l fun v0 w0=>zB v0 fun x0=>Q x0 w0) (bindO (eLd tb 23 (.ptr M.next 0) l) fun y0=>∃ B C D E F:Int,y0.1=(.agg [B,C,D,E,F])∧(CallA tb.P 19 [(.agg [B,C,D,E,F]),(.val (.slice none 0 0))] l fun z0 d=>∃ (c:AV) (e:AV) (G:AV),z0=(.tup [c,e,G])∧(letP (fun (A0:Bool) (m:Mem)=>condB (A0) (Q false m) (bindO (eLd tb 23 (.ptr M.next 0) m) fun B0=>∃ H I J K L:Int,B0.1=(.agg [H,I,J,K,L])∧(CallA tb.P 23 [(.agg [H,I,J,K,L])] m fun C0 D0=>zI .i64 C0 fun n=>∃ o:Int→Nat→Mem→Prop,(∃ E0:Nat,o (0:Int) E0 D0)∧∀ (_:Nat→Option AV) (f:Int) (N:Nat) (h:Mem),o f N h→(bindO (eLen tb false 25 a1 h) fun F0=>zI .i64 F0.1 fun G0=>condB (decide (f<G0)) (∃ p:Int→Nat→Mem→Prop,(∃ H0:Nat,p (0:Int) H0 h)∧∀ (_:Nat→Option AV) (i:Int) (O:Nat) (r:Mem),p i O r→(condB (decide (i<(3:Int))) (CallA tb.P 24 [c] r fun I0 j=>zI .i64 I0 fun J0=>letP (fun (K0:Bool) (R:Mem)=>condB (K0) (Q false R) (∃ S:Nat,S<O∧(p (iAdd .i64 i 1) S R))) fun T=>bindO (eIA tb 25 a1 f j) fun L0=>zP L0.1 fun U V=>bindO (eLd tb 3 (.ptr U V) j) fun N0=>zI .i64 N0.1 fun W=>bindO (eLd tb 3 (.ptr M.next 2) j) fun O0=>zI .i64 O0.1 fun s=>CallA tb.P 20 [e] j fun P0 t=>zI .i64 P0 fun R0=>(bindO (eLd tb 3 (.ptr U V) t) fun S0=>(some W:Option AV)=some S0.1)∧(bindO (eLd tb 3 (.ptr M.next 2) t) fun T0=>(some s:Option AV)=some T0.1)∧(CallA tb.P 14 [(iAdd .i64 W i),R0] t fun U0 X=>zI .i64 U0 fun V0=>(bindO (eLd tb 3 (.ptr M.next 2) X) fun W0=>(some s:Option AV)=some W0.1)∧(CallA tb.P 16 [(.val (.int .u8 (IntKind.wrap .u8 f))),s] X fun X0 Y0=>CallA tb.P 15 [e,V0,X0] Y0 fun Z0 Y=>zI .i64 Z0 fun c1=>condB (c1 != (0:Int)) (T true Y) (CallA tb.P 24 [c] Y fun d1 e1=>zI .i64 d1 fun f1=>T (decide ((iSub .i64 f1 J0)>n)) e1)))) (CallA tb.P 24 [c] r fun g1 h1=>zI .i64 g1 fun j1=>letP (fun (l1:Bool) (Z:Mem)=>condB (l1) (Q false Z) (∃ c0:Nat,c0<N∧(o (iAdd .i64 f 1) c0 Z))) fun u=>CallA tb.P 17 [e] h1 fun m1 d0=>zI .i64 m1 fun n1=>condB (n1 != (0:Int)) (u true d0) (CallA tb.P 24 [c] d0 fun o1 e0=>zI .i64 o1 fun r1=>condB (decide ((iSub .i64 r1 j1)>n)) (u true e0) (CallA tb.P 25 [c] e0 fun t1 u1=>zI .i64 t1 fun v1=>CallA tb.P 26 [c] u1 fun w1 x1=>zI .i64 w1 fun y1=>u (decide (v1>y1)) x1))))) (CallA tb.P 24 [c] h fun A1 B1=>zI .i64 A1 fun C1=>CallA tb.P 12 [c] B1 fun D1 f0=>∃ (E1:AV) (g0:Int),D1=(.tup [E1,g0])∧(letP (fun (F1:Bool) (G1:Mem)=>Q F1 G1) fun k=>condB (g0==(0:Int)) (CallA tb.P 24 [c] f0 fun H1 h0=>zI .i64 H1 fun I1=>condB (decide ((iSub .i64 I1 C1)≤n)) (CallA tb.P 25 [c] h0 fun J1 K1=>zI .i64 J1 fun L1=>CallA tb.P 26 [c] K1 fun N1 j0=>zI .i64 N1 fun O1=>condB (decide (L1≤O1)) (CallA tb.P 10 [] j0 fun P1 R1=>zB P1 fun S1=>k S1 R1) (k false j0)) (k false h0)) (k false f0))))))) fun v=>bindO (eBin tb .eql 28 (.tmp 31) (.const (.pointer none)) c (.val (.pointer none)) d) fun T1=>zB T1.1 fun U1=>condB (U1) (v true d) (bindO (eBin tb .eql 42 (.tmp 34) (.const (.pointer none)) G (.val (.pointer none)) d) fun V1=>zB V1.1 fun W1=>condB (W1) (v true d) (CallA tb.P 20 [e] d fun X1 Y1=>zI .i64 X1 fun Z1=>v (decide (Z1<(1:Int))) Y1)))))) fun l0=>bindO (eLen tb false 25 a1 g) fun c2=>zI .i64 c2.1 fun d2=>condB (decide (d2>(40:Int))) (l0 true g) (bindO (eLd tb 23 (.ptr M.next 0) g) fun e2=>∃ m0 n0 o0 r0 t0:Int,e2.1=(.agg [m0,n0,o0,r0,t0])∧(CallA tb.P 22 [(.agg [m0,n0,o0,r0,t0])] g fun f2 g2=>zB f2 fun h2=>l0 (!h2) g2))
theorem F5_ok{a0 a1 M Q}(h:F5 a0 a1 M Q):CallA tb.P 5 [a0,a1] M Q:=qk2 (f:=Tryz.f5) (qC (.seq (qD [sN,sI,sB,sZ,sE,sB,sB] (.cnd (qE [sB]) .z)) (qD [sE,.tup [.l .any,.l .any,.l .any]] (.seq (qF [sN,sB,sZ,sN,sB,sN,sZ,sN,sI,sB]) (qD [sE,sI] (.seq (qC (.blk (.lop [(9,.int .i64)] ([4,10,11,12]++qn 44 100) (.seq (qD [sN,sN,sI,sB] qG) (.seq (.blk (.seq (qC (.blk (.lop [(10,.int .i64)] ([4,11]++qn 50 80) (.seq (qD [sN,sB] qG) (.seq (.blk (qD [sN,sI] (.seq (.opn [(0,[]),(1,[]),(2,[]),(3,[]),(5,[]),(7,[]),(10,[]),(11,[]),(12,[]),(4,[]),(6,[]),(13,[]),(8,[4,13]),(9,[13]),(14,[]),(15,[]),(16,[]),(17,[]),(18,[]),(20,[]),(22,[]),(19,[]),(21,[]),(23,[]),(24,[])] [] [[],[],[],[],[],[],[],[],[4,13],[13]] 0 [sN,sN,sN,sP,sN,sN,sN,sU,sP,sI,sI,sI,sI,sI,sN,sI,sB,sZ,sN,sN,sN,sI,sI,sB,sN]) (.cnd qB .z)))) (.reg [sN,sI])))))) (qD [sN,sI] (qF [sN,sI,sB,sZ,sN,sI,sN,sI,sN,sB,sN,sZ,sN,sI,sN,sI,sB])))) (.reg [sN,sI])))))) (qD [sN,sI] (qD [sN,.tup [.l .any,.l (.int .i64)],sN,sN,sI] (qE [sN,sB,sZ,sN,sI,sN,sI,sN,sB,sN,sZ,sN,sI,sN,sI,sB,sN,sZ,sB]))))))))) [.a [.int .i64,.int .i64,.int .i64,.int .i64,.int .i64],.l .any] rfl (by kernel_rfl) (by kernel_rfl) (by kernel_rfl) h
section
variable {M0:Mem} {g:Geo} {k n:Int} {A:Adr} {M:Mem} {S:Ps} {P:Int→Option (Option Dat)} {B:Int→Option Dat}
theorem ls_ops(h:LF M0 g k n A M S P B):CallA tb.P 24 [.ptr A.p 0] M fun y N=>y=i64 S.ops∧N=M:=by
 obtain⟨C,m,hr⟩:=h.fm.fr
 refine F24_ok ?_
 unfold F24
 refine bZi nil_eq28 ?_
 simp only[zZb,cZf]
 refine bZi eZn ?_
 refine bZi fa4 ?_
 simp only[zZp]
 refine bZi (ld_ops hr.chip) ?_
 simp only[i64,zZi]
 rw[hr.rel.ops]
 exact⟨by trivial,by trivial⟩
theorem ls_cuts(h:LF M0 g k n A M S P B):CallA tb.P 63 [.ptr A.p 0] M fun y N=>y=i64 0∧N=M:=by
 obtain⟨C,m,hr⟩:=h.fm.fr
 refine F63_ok ?_
 unfold F63
 refine bZi nil_eq28 ?_
 simp only[zZb,cZf]
 refine bZi eZn ?_
 refine bZi fa5 ?_
 simp only[zZp]
 refine bZi (ld_cuts hr.chip) ?_
 simp only[i64,zZi]
 rw[hr.rel.calm.cuts]
 exact⟨by trivial,by trivial⟩
def bndG(g:Geo):Int:=iMul .i64 (iMul .i64 (iMul .i64 60 g.bl) g.bl) g.pg
theorem bnd_is{g:Geo}(hg:mayG g=true):bndG g=60*g.bl*g.bl*g.pg:=by
 have hm:=mayG_iff.1 hg
 have h2:60*g.bl*g.bl≤60*20*20:=Int.mul_le_mul (by omega) (by omega) (by omega) (by omega)
 have h2':0≤60*g.bl*g.bl:=Int.mul_nonneg (by omega) (by omega)
 have h3:60*g.bl*g.bl*g.pg≤60*20*20*8:=Int.mul_le_mul h2 (by omega) (by omega) (by omega)
 have h3':0≤60*g.bl*g.bl*g.pg:=Int.mul_nonneg h2' (by omega)
 unfold bndG
 have e1:iMul .i64 60 g.bl=60*g.bl:=by rw[iMul,wrap_i64' (by omega) (by omega)]
 have e2:iMul .i64 (60*g.bl) g.bl=60*g.bl*g.bl:=by rw[iMul,wrap_i64' (by omega) (by omega)]
 rw[e1,e2,iMul,wrap_i64' (by omega) (by omega)]
theorem l_bound(M:Mem)(hw:M.WF)(g:Geo)(hg:mayG g=true):CallA tb.P 23 [geoA g] M fun y N=>y=i64 (bndG g)∧Keep M N []:=by
 refine F23_ok ?_
 unfold F23
 refine⟨_,_,_,_,_,rfl,?_⟩
 refine lZi fun M6 hM6=>?_
 have hM6:M6=M.new (.cells (geoC g) true):=hM6
 have hk6:Keep M M6 []:=by rw[hM6];exact Keep.new hw _
 have hbox:M6.get M.next=some (.cells (geoC g) true):=by rw[hM6];exact get_new _ _
 obtain⟨_,_,_,_,_,l5⟩:=geo_ld hbox
 refine bZi (lZs l5) ?_
 refine⟨_,_,_,_,_,rfl,?_⟩
 refine (l_may22 M6 hk6.wf g).mono ?_
 rintro y N ⟨rfl,hk⟩
 simp only[zZb,hg,Bool.not_true,cZf]
 obtain⟨l0,l1,_,_,_,_⟩:=geo_ld (hk.get hk6.wf hbox (by simp))
 refine bZi (lZs l0) ?_
 simp only[i64,zZi]
 refine bZi (lZs l0) ?_
 simp only[i64,zZi]
 refine bZi (lZs l1) ?_
 simp only[i64,zZi]
 exact⟨rfl,hk6.trans0 hk⟩
theorem ls_limit(h:LF M0 g k n A M S P B):CallA tb.P 26 [.ptr A.p 0] M fun y N=>y=i64 (g.tr+2*g.bl)∧Keep M N []:=by
 have hg:=h.may
 have hm:=mayG_iff.1 hg
 obtain⟨C,m,hr⟩:=h.fm.fr
 have eg:C.g=g:=hr.rel.g.trans h.g
 refine F26_ok ?_
 unfold F26
 refine (c_geo M h.wf A.p C hr.chip).mono ?_
 rintro y M2 ⟨rfl,hk2⟩
 rw[eg]
 refine⟨_,_,_,_,_,rfl,?_⟩
 refine lZi fun M8 hM8=>?_
 have hM8:M8=M2.new (.cells [i64 0,i64 0,i64 0,i64 0,i64 0] true):=hM8
 have hk8:Keep M2 M8 []:=by rw[hM8];exact Keep.new hk2.wf _
 have hg8:M8.get M2.next=some (.cells [i64 0,i64 0,i64 0,i64 0,i64 0] true):=by rw[hM8];exact get_new _ _
 refine bZi (geo_st g hg8 rfl) ?_
 have hk9:Keep M2 (M8.put M2.next (.cells (geoC g) true)) []:=kZn hk8 (Nat.le_refl _) (hk8.wf _ _ hg8) _
 have hb9:(M8.put M2.next (.cells (geoC g) true)).get M2.next=some (.cells (geoC g) true):=by rw[Mem.get_put,if_pos rfl]
 generalize M8.put M2.next (.cells (geoC g) true)=M9 at hk9 hb9 ⊢
 obtain⟨_,_,_,_,l4,l5⟩:=geo_ld hb9
 refine bZi (lZs l4) ?_
 simp only[i64,zZi]
 refine bZi (lZs l5) ?_
 refine⟨_,_,_,_,_,rfl,?_⟩
 have l62:CallA tb.P 62 [geoA g] M9 fun y N=>y=i64 (2*g.bl)∧Keep M9 N []:=by
  refine F62_ok ?_
  unfold F62
  refine⟨_,_,_,_,_,rfl,?_⟩
  refine lZi fun M6 hM6=>?_
  have hM6:M6=M9.new (.cells (geoC g) true):=hM6
  have hk6:Keep M9 M6 []:=by rw[hM6];exact Keep.new hk9.wf _
  have hbox:M6.get M9.next=some (.cells (geoC g) true):=by rw[hM6];exact get_new _ _
  obtain⟨_,_,_,_,_,l5⟩:=geo_ld hbox
  refine bZi (lZs l5) ?_
  refine⟨_,_,_,_,_,rfl,?_⟩
  refine (l_may22 M6 hk6.wf g).mono ?_
  rintro y N ⟨rfl,hk⟩
  simp only[zZb,hg,Bool.not_true,cZf]
  obtain⟨l0,_⟩:=geo_ld (hk.get hk6.wf hbox (by simp))
  refine bZi (lZs l0) ?_
  simp only[i64,zZi]
  refine⟨?_,hk6.trans0 hk⟩
  rw[iMul,wrap_i64' (by omega) (by omega)]
 refine l62.mono ?_
 rintro y M19 ⟨rfl,hk19⟩
 simp only[i64,zZi]
 have hkA:=(hk2.trans0 hk9).trans0 hk19
 refine⟨bZi (lZs (geo_ld (hk19.get hk9.wf hb9 (by simp))).2.2.2.2.1) rfl,?_⟩
 refine (ls_cuts (h.keep hkA)).mono ?_
 rintro y M23 ⟨rfl,rfl⟩
 simp only[i64,zZi]
 refine⟨bZi (lZs (geo_ld (hk19.get hk9.wf hb9 (by simp))).2.2.2.2.1) rfl,?_,hkA⟩
 have e1:iAdd .i64 g.tr (2*g.bl)=g.tr+2*g.bl:=by rw[iAdd,wrap_i64' (by omega) (by omega)]
 rw[e1,iAdd,wrap_i64' (by omega) (by omega)]
 congr 2
 omega
theorem ls_spread(h:LF M0 g k n A M S P B)(hn:n≤1000000000):CallA tb.P 25 [.ptr A.p 0] M fun y N=>y=i64 (spreadX S)∧Keep M N []:=by
 have hg:=h.may
 have hm:=mayG_iff.1 hg
 obtain⟨C,m,hr⟩:=h.fm.fr
 have eg:C.g=g:=hr.rel.g.trans h.g
 have hgeo:=hr.geo
 have hgb:g.bl=(nB S:Int):=by rw[← h.g];exact hgeo.1
 refine F25_ok ?_
 unfold F25
 refine (c_geo M h.wf A.p C hr.chip).mono ?_
 rintro y M2 ⟨rfl,hk2⟩
 rw[eg]
 refine⟨_,_,_,_,_,rfl,?_⟩
 refine lZi fun M8 hM8=>?_
 have hM8:M8=M2.new (.cells [i64 0,i64 0,i64 0,i64 0,i64 0] true):=hM8
 have hk8:Keep M2 M8 []:=by rw[hM8];exact Keep.new hk2.wf _
 have hg8:M8.get M2.next=some (.cells [i64 0,i64 0,i64 0,i64 0,i64 0] true):=by rw[hM8];exact get_new _ _
 refine bZi (geo_st g hg8 rfl) ?_
 have hk9:Keep M2 (M8.put M2.next (.cells (geoC g) true)) []:=kZn hk8 (Nat.le_refl _) (hk8.wf _ _ hg8) _
 have hb9:(M8.put M2.next (.cells (geoC g) true)).get M2.next=some (.cells (geoC g) true):=by rw[Mem.get_put,if_pos rfl]
 generalize M8.put M2.next (.cells (geoC g) true)=M9 at hk9 hb9 ⊢
 have hk09:=hk2.trans0 hk9
 refine⟨fun x z i q P=>∃ j:Nat,i=j∧q=nB S-j∧j≤nB S∧Keep M9 P []∧GrV P x ((wsX S j).map i64)∧GrV P z ((isX (xGood S) j).map bv)∧(∀ c,inBlk x c→M9.next≤c)∧(∀ c,inBlk z c→M9.next≤c)∧∀ c,inBlk x c→¬ inBlk z c,
  ⟨_,0,rfl,rfl,Nat.zero_le _,Keep.refl hk9.wf,.inl ⟨rfl,rfl⟩,.inl ⟨rfl,rfl⟩,fun c hc=>hc.elim,fun c hc=>hc.elim,fun c hc=>hc.elim⟩,?_⟩
 rintro _ x z i q P ⟨j,rfl,rfl,hj,hk,hx,hz,fx,fz,fxz⟩
 refine bZi (lZs (geo_ld (hk.get hk9.wf hb9 (by simp))).1) ?_
 simp only[i64,zZi]
 rw[hgb]
 refine cZi (fun hlt=>?_) (fun hge=>?_)
 ·have hlt:j<nB S:=Int.ofNat_lt.1 (of_decide_eq_true hlt)
  refine lZi fun K37 hK37=>?_
  have hkP:=hk09.trans0 hk
  have hP:=hr.post hkP
  refine (c_wear P hk.wf A.p C hP.chip (j:Int)).mono ?_
  rintro y N ⟨rfl,hkN⟩
  rw[hP.wearB hlt]
  simp only[i64,zZi]
  refine lZi fun M22 hM22=>?_
  subst hM22
  have hkN':=hk.trans0 hkN
  obtain⟨x',N',g1,g2,g3,g4⟩:=GrV.grow ty25 ty3 rfl (by decide) hkN.wf (hx.keep0 hk.wf hkN) (i64 (xWear S j)) rfl (by rw[List.length_map,wsX_len];omega)
  refine bZi g1 ?_
  rw[← wsX_succ] at g2
  have hk1:Keep M9 N' []:=keep_grow hkN' g3 fx
  have hz1:GrV N' z ((isX (xGood S) j).map bv):=(hz.keep0 hk.wf hkN).mono fun c r hc hr'=>by
   rw[g3.old c (hkN.wf _ _ hr') fun hxc=>fxz c hxc hc];exact hr'
  have fx':∀ c,inBlk x' c→N.next≤c:=g4
  have hP1:=hr.post (hk09.trans0 hk1)
  refine (c_badOf N' hk1.wf A.p C hP1.chip (j:Int)).mono ?_
  rintro y M25 ⟨rfl,hk25⟩
  simp only[zZb]
  have hP25:=hr.post (hk09.trans0 (hk1.trans0 hk25))
  have hlb:=hP25.lostB hlt
  have fin:∀ (M28:Mem),Keep N' M28 []→bindO (evAppend tb 103 103 z (.sl M28.next 0 1 1 none) (M28.new (.cells [.val (.bool (xGood S j))] true))) fun y31=>K37 x' y31.1 y31.2:=by
   intro M28 hk28
   obtain⟨z',N2,q1,q2,q3,q4⟩:=GrV.grow ty103 ty4 rfl (by decide) hk28.wf (hz1.keep0 hk1.wf hk28) (bv (xGood S j)) rfl (by rw[List.length_map,isX_len];omega)
   refine bZi q1 ?_
   rw[← isX_succ] at q2
   rw[hK37]
   dsimp only
   have hkf:Keep M9 N2 []:=keep_grow (hk1.trans0 hk28) q3 fz
   have hx2:=g2.lt hk1.wf
   refine⟨nB S-(j+1),by omega,j+1,iInc (by omega),rfl,hlt,hkf,?_,q2,fun c hc=>?_,fun c hc=>?_,fun c hc hc2=>?_⟩
   ·refine (g2.keep0 hk1.wf hk28).mono fun c r hc hr'=>?_
    have h1:¬ inBlk z c:=fun hzc=>by
     have:=fx' c hc
     have:=(hz.keep0 hk.wf hkN).lt hkN.wf c hzc
     omega
    rw[q3.old c (hk28.wf _ _ hr') h1];exact hr'
   ·have:=fx' c hc
    have:=hkN'.nxt
    omega
   ·have:=q4 c hc
    have:=(hk1.trans0 hk28).nxt
    omega
   ·have:=q4 c hc2
    have:=hx2 c hc
    have:=hk28.nxt
    omega
  have hgood:∀ b1 b2:Bool,badF C.fs (j:Int)=b1→failed C (j:Int)=b2→xGood S j=(!b1&& !b2):=fun b1 b2 e1 e2=>by
   unfold xGood
   rw[← hlb]
   unfold Go.Proofs.YtlogedcoiogagaaGreat.lostB
   rw[e1,e2,Bool.not_or]
  cases hbad:badF C.fs (j:Int) with
  | true=>
    simp only[Bool.not_true,cZf]
    refine lZi fun M32 hM32=>?_
    subst hM32
    have:=fin M25 hk25
    rw[hgood true _ hbad rfl] at this
    exact this
  | false=>
    simp only[Bool.not_false,cZt]
    refine (c_failed M25 hk25.wf A.p C hP25.chip (j:Int)).mono ?_
    rintro y M28 ⟨rfl,hk28⟩
    simp only[zZb]
    refine lZi fun M30 hM30=>?_
    subst hM30
    have:=fin M28 (hk25.trans0 hk28)
    rw[hgood false _ hbad rfl] at this
    exact this
 ·have hge:j=nB S:=by
   have:¬ (j:Int)<(nB S:Int):=of_decide_eq_false hge
   omega
  subst hge
  have hwb:∀ b,b<nB S→0≤xWear S b∧xWear S b≤1000000000:=fun b hb=>by
   unfold xWear
   cases hX:S.x[b]? with
   | none=>simp
   | some X=>
     have:=h.q.inv.cnt b X hX
     have:=h.ops
     simp only
     omega
  refine (r_spread P x z (wsX S (nB S)) (isX (xGood S) (nB S)) hx.at hz.at (by rw[isX_len,wsX_len]) (by rw[wsX_len];omega) fun b=>?_).mono ?_
  ·by_cases hb:b<nB S
   ·have:(wsX S (nB S)).getD b 0=xWear S b:=by
     unfold wsX
     rw[List.getD_eq_getElem?_getD,List.getElem?_map,List.getElem?_range hb];rfl
    rw[this];exact hwb b hb
   ·rw[List.getD_eq_getElem?_getD,List.getElem?_eq_none (by rw[wsX_len];omega)]
    exact⟨Int.le_refl _,by decide⟩
  ·rintro y N ⟨rfl,rfl⟩
   rw[spr_is hr hwb]
   simp only[i64,zZi]
   exact⟨by trivial,hk09.trans0 hk⟩
end
end Go.Proofs.YtlogedcoiogagaaGreat
